/- The abstract machine, part 4: more operations that neither write nor make memory, each beside the model's. -/
import Derived.Test.YtafnialikielkaaAm3
namespace Go.AM
open Go

section
variable {P : Program} {m : Mp} {h : Heap} {w : World}

theorem eqGuard_other {op : BinOp} {t : TypeId} {xo yo : Operand} {x y : Value} (h1 : ¬ (x = .nilIface ∧ y = .nilIface)) (h2 : ∀ cs, x ≠ .agg cs) (w : World) :
    (eqGuard op t xo yo x y).run P w = .ok () w := by
  unfold eqGuard
  cases op <;> first
    | rfl
    | (cases x <;> first | exact absurd rfl (h2 _) | rfl | (cases y <;> first | rfl | exact absurd ⟨rfl, rfl⟩ h1))

theorem eqGuard_const {op : BinOp} {t : TypeId} {xo yo : Operand} (hc : (isConstB xo || isConstB yo) = true) (w : World) :
    (eqGuard op t xo yo .nilIface .nilIface).run P w = .ok () w := by
  unfold eqGuard
  cases op <;> first
    | rfl
    | (cases xo <;> first | rfl | (cases yo <;> first | rfl | (simp [isConstB] at hc)))

theorem VR.ne_agg {x x' : Value} (hx : VR m x x') (h : ∀ cs, x ≠ .agg cs) : ∀ cs, x' ≠ .agg cs := by
  intro cs e; subst e; cases hx; exact h _ rfl
theorem VR.ne_nilIface {x x' : Value} (hx : VR m x x') (h : x' = .nilIface) : x = .nilIface := by
  subst h; cases hx; rfl

theorem binOp_eql {t : TypeId} {x y : Value} {b : Bool} (he : ∀ w : World, (Op.equalIn Op.maxDepth t x y).run P w = .ok b w)
    (h1 : ∀ k n k' n', ¬ (x = .int k n ∧ y = .int k' n')) (h2 : ∀ s s', ¬ (x = .string s ∧ y = .string s')) (h3 : ∀ k n k' n', ¬ (x = .float k n ∧ y = .float k' n'))
    (h4 : ∀ k n l k' n' l', ¬ (x = .complex k n l ∧ y = .complex k' n' l')) (w : World) :
    (binOp .eql t x y).run P w = .ok (.bool b) w ∧ (binOp .neq t x y).run P w = .ok (.bool (!b)) w := by
  have he' : ∀ w : World, (Op.equal t x y).run P w = .ok b w := he
  constructor
  · unfold binOp
    split <;> first | exact absurd ⟨rfl, rfl⟩ (h1 _ _ _ _) | exact absurd ⟨rfl, rfl⟩ (h2 _ _) | exact absurd ⟨rfl, rfl⟩ (h3 _ _ _ _) | exact absurd ⟨rfl, rfl⟩ (h4 _ _ _ _ _ _) | (simp [he']; done) | simp_all
  · unfold binOp
    split <;> first | exact absurd ⟨rfl, rfl⟩ (h1 _ _ _ _) | exact absurd ⟨rfl, rfl⟩ (h2 _ _) | exact absurd ⟨rfl, rfl⟩ (h3 _ _ _ _) | exact absurd ⟨rfl, rfl⟩ (h4 _ _ _ _ _ _) | (simp [he']; done) | simp_all

theorem aEqF_noFloat {d : Nat} {t : TypeId} {x y : Value} {b : Bool} (ha : aEqF d P t x y = some b) :
    (∀ k n k' n', ¬ (x = .float k n ∧ y = .float k' n')) ∧ (∀ k n l k' n' l', ¬ (x = .complex k n l ∧ y = .complex k' n' l')) ∧ (x ≠ .agg #[] → True) := by
  cases d with
  | zero => simp [aEqF] at ha
  | succ d =>
    refine ⟨fun k n k' n' e => ?_, fun k n l k' n' l' e => ?_, fun _ => trivial⟩ <;>
      (obtain ⟨rfl, rfl⟩ := e; unfold aEqF at ha; split at ha <;> simp_all)

theorem aBin_sim {op : BinOp} {t : TypeId} {xo yo : Operand} {x y x' y' v : Value} (hx : VR m x x') (hy : VR m y y') (ha : aBin P op t xo yo x y = some v) (w : World) :
    (eqGuard op t xo yo x' y').run P w = .ok () w ∧ (binOp op t x' y').run P w = .ok v w ∧ VR m v v := by
  unfold aBin at ha
  split at ha
  · split at ha
    · cases ha
    · rename_i hb; injection ha with ha; subst ha; cases hx; cases hy
      exact ⟨eqGuard_other (by simp) (by simp) w, by simp [binOp, Op.shift, hb], .int _ _⟩
  · split at ha
    · cases ha
    · rename_i hb; injection ha with ha; subst ha; cases hx; cases hy
      exact ⟨eqGuard_other (by simp) (by simp) w, by simp [binOp, Op.shift, hb], .int _ _⟩
  · rename_i op k a k' b h1 h2
    split at ha
    · rename_i hk; subst hk; cases hx; cases hy
      refine ⟨eqGuard_other (by simp) (by simp) w, aIntBin_sim (m := m) ?_ ?_ ha t w⟩
      · rintro rfl; exact h1 rfl
      · rintro rfl; exact h2 rfl
    · cases ha
  · cases hx; cases hy
    exact ⟨eqGuard_other (by simp) (by simp) w, aStrBin_sim ha t w⟩
  · split at ha
    · rename_i hc; cases hx; cases hy
      cases hb : aEqF 8 P t .nilIface .nilIface with
      | none => rw [hb] at ha; cases ha
      | some b =>
        rw [hb] at ha; injection ha with ha; subst ha
        exact ⟨eqGuard_const hc w, (binOp_eql (fun w => aEqF_sim (m := m) 8 _ _ _ _ _ _ b (by decide) hb .nilIface .nilIface w) (by simp) (by simp) (by simp) (by simp) w).1, .bool _⟩
    · cases ha
  · split at ha
    · rename_i hc; cases hx; cases hy
      cases hb : aEqF 8 P t .nilIface .nilIface with
      | none => rw [hb] at ha; cases ha
      | some b =>
        rw [hb] at ha; injection ha with ha; subst ha
        exact ⟨eqGuard_const hc w, (binOp_eql (fun w => aEqF_sim (m := m) 8 _ _ _ _ _ _ b (by decide) hb .nilIface .nilIface w) (by simp) (by simp) (by simp) (by simp) w).2, .bool _⟩
    · cases ha
  · cases ha
  · rename_i h5 h2 h3 h4
    cases hb : aEqF 8 P t x y with
    | none => rw [hb] at ha; cases ha
    | some b =>
      rw [hb] at ha; injection ha with ha; subst ha
      have hag := hx.ne_agg h5
      obtain ⟨f1, f2, _⟩ := aEqF_noFloat hb
      refine ⟨eqGuard_other (fun e => h4 (hx.ne_nilIface e.1) (hy.ne_nilIface e.2)) hag w, (binOp_eql (fun w => aEqF_sim 8 _ _ _ _ _ _ b (by decide) hb hx hy w) ?_ ?_ ?_ ?_ w).1, .bool _⟩
      · rintro k n k' n' ⟨rfl, rfl⟩; cases hx; cases hy; exact h2 _ _ _ _ rfl rfl
      · rintro s s' ⟨rfl, rfl⟩; cases hx; cases hy; exact h3 _ _ rfl rfl
      · rintro k n k' n' ⟨rfl, rfl⟩; cases hx; cases hy; exact f1 _ _ _ _ ⟨rfl, rfl⟩
      · rintro k n l k' n' l' ⟨rfl, rfl⟩; cases hx; cases hy; exact f2 _ _ _ _ _ _ ⟨rfl, rfl⟩
  · rename_i h5 h2 h3 h4
    cases hb : aEqF 8 P t x y with
    | none => rw [hb] at ha; cases ha
    | some b =>
      rw [hb] at ha; injection ha with ha; subst ha
      have hag := hx.ne_agg h5
      obtain ⟨f1, f2, _⟩ := aEqF_noFloat hb
      refine ⟨eqGuard_other (fun e => h4 (hx.ne_nilIface e.1) (hy.ne_nilIface e.2)) hag w, (binOp_eql (fun w => aEqF_sim 8 _ _ _ _ _ _ b (by decide) hb hx hy w) ?_ ?_ ?_ ?_ w).2, .bool _⟩
      · rintro k n k' n' ⟨rfl, rfl⟩; cases hx; cases hy; exact h2 _ _ _ _ rfl rfl
      · rintro s s' ⟨rfl, rfl⟩; cases hx; cases hy; exact h3 _ _ rfl rfl
      · rintro k n k' n' ⟨rfl, rfl⟩; cases hx; cases hy; exact f1 _ _ _ _ ⟨rfl, rfl⟩
      · rintro k n l k' n' l' ⟨rfl, rfl⟩; cases hx; cases hy; exact f2 _ _ _ _ _ _ ⟨rfl, rfl⟩
  · cases ha

theorem aBound_sim {x x' : Value} {y n : Nat} (hx : VR m x x') (ha : aBound x y = some n) (code : BoundsCode) (w : World) : (Instr.sliceBound x' y code).run P w = .ok n w ∧ n ≤ y := by
  unfold aBound at ha
  split at ha
  · split at ha
    · rename_i hi; injection ha with ha; subst ha; cases hx
      exact ⟨by simp [Instr.sliceBound, asIntOf, hi], by omega⟩
    · cases ha
  · cases ha

/-- Options of values. -/
def VRo (m : Mp) : Option Value → Option Value → Prop
  | none, none => True
  | some v, some v' => VR m v v'
  | _, _ => False

theorem bounds_sim {isSl : Bool} {len cap mm hh ll : Nat} {lo hi mx lo' hi' mx' : Option Value} (hlo : VRo m lo lo') (hhi : VRo m hi hi') (hmx : VRo m mx mx')
    (h1 : aBoundO mx cap cap = some mm) (h2 : aBoundO hi mm len = some hh) (h3 : aBoundO lo hh 0 = some ll) (hno : mx.isSome = true → hi.isSome = true) (w : World) :
    (Instr.sliceBounds isSl len cap lo' hi' mx').run P w = .ok (ll, hh, mm) w ∧ ll ≤ max hh 0 ∧ mm ≤ cap := by
  have hl : ∀ (c1 : BoundsCode), (match lo' with | some v => Instr.sliceBound v hh c1 | none => pure 0).run P w = .ok ll w ∧ ll ≤ max hh 0 := by
    intro c1
    cases lo with
    | none => cases lo' with
      | none => simp [aBoundO] at h3; subst h3; exact ⟨rfl, by omega⟩
      | some _ => exact hlo.elim
    | some v => cases lo' with
      | none => exact hlo.elim
      | some v' => have := aBound_sim (P := P) hlo h3 c1 w; exact ⟨this.1, by omega⟩
  cases mx with
  | none => cases mx' with
    | some _ => exact hmx.elim
    | none =>
      simp [aBoundO] at h1; subst h1
      cases hi with
      | none => cases hi' with
        | some _ => exact hhi.elim
        | none =>
          simp [aBoundO] at h2; subst h2
          refine ⟨?_, (hl .sliceB).2, Nat.le_refl _⟩
          have := (hl .sliceB).1
          simp only [Instr.sliceBounds, Sem.run_bind, Sem.run_pure, Result.andThen_ok]
          cases lo' with
          | none => simp at this ⊢; exact this
          | some v' => simp at this ⊢; rw [this]; rfl
      | some v => cases hi' with
        | none => exact hhi.elim
        | some v' =>
          have hb := aBound_sim (P := P) hhi h2 (if isSl then BoundsCode.sliceAcap else BoundsCode.sliceAlen) w
          refine ⟨?_, (hl .sliceB).2, Nat.le_refl _⟩
          have := (hl .sliceB).1
          simp only [Instr.sliceBounds, Sem.run_bind, Sem.run_pure, Result.andThen_ok]
          rw [hb.1]
          cases lo' with
          | none => simp at this ⊢; exact this
          | some v' => simp at this ⊢; rw [this]; rfl
  | some v => cases mx' with
    | none => exact hmx.elim
    | some v' =>
      have hm := aBound_sim (P := P) hmx h1 (if isSl then BoundsCode.slice3Acap else BoundsCode.slice3Alen) w
      cases hi with
      | none => simp at hno
      | some u => cases hi' with
        | none => exact hhi.elim
        | some u' =>
          have hb := aBound_sim (P := P) hhi h2 BoundsCode.slice3B w
          refine ⟨?_, (hl .slice3C).2, hm.2⟩
          have := (hl .slice3C).1
          simp only [Instr.sliceBounds, Sem.run_bind, Sem.run_pure, Result.andThen_ok]
          rw [hm.1]
          simp only [Result.andThen_ok]
          rw [hb.1]
          cases lo' with
          | none => simp at this ⊢; exact this
          | some v' => simp at this ⊢; rw [this]; rfl

theorem aFieldAddr_sim {s : TypeId} {x x' v : Value} {f : Nat} (hx : VR m x x') (ha : aFieldAddr P s x f = some v) (w : World) :
    ∃ v', (Instr.fieldAt s x' f).run P w = .ok v' w ∧ VR m v v' := by
  unfold aFieldAddr at ha
  split at ha
  · rename_i fs hu
    split at ha
    · rename_i fd hf
      split at ha
      · rename_i i hi
        split at ha
        · rename_i k off
          obtain ⟨loc, hk, rfl⟩ := ptr_inv hx
          cases hz : Nat.beq i.size 0 with
          | true => rw [hz] at ha; cases ha
          | false =>
            rw [hz] at ha; injection ha with ha; subst ha
            have hne : i.size ≠ 0 := fun e => by rw [e] at hz; cases hz
            refine ⟨.pointer (some ⟨loc.blk, loc.dl + (off + fd.offset), none⟩), ?_, .ptr _ _ _ hk⟩
            simp [Instr.fieldAt, run_underlying hu, hf, Instr.sureAddr, fieldPlace, run_sizeOf' hi, hne, add_none, Nat.add_assoc]
        · cases ha
      · cases ha
    · cases ha
  · cases ha

theorem VR.agg_inv {cs : Array Value} {x' : Value} (hx : VR m (.agg cs) x') : ∃ cs', x' = .agg cs' ∧ VRs m cs.toList cs'.toList := by
  cases hx with
  | agg _ c' hc hs => exact ⟨c', rfl, by simpa using hc, fun i v v' a b => hs i v v' (by simpa using a) (by simpa using b)⟩
theorem VR.tuple_inv {cs : Array Value} {x' : Value} (hx : VR m (.tuple cs) x') : ∃ cs', x' = .tuple cs' ∧ VRs m cs.toList cs'.toList := by
  cases hx with
  | tuple _ c' hc hs => exact ⟨c', rfl, by simpa using hc, fun i v v' a b => hs i v v' (by simpa using a) (by simpa using b)⟩

theorem aPart_sim {t : TypeId} {cs cs' : Array Value} {off : Nat} {v : Value} (hv : VRs m cs.toList cs'.toList) (ha : aPart P t cs off = some v) (w : World) :
    ∃ v', (part t cs' off).run P w = .ok v' w ∧ VR m v v' := by
  unfold aPart at ha
  have agg : ∀ d, P.underlying t = some d → ((∃ fs, d = .struct fs) ∨ (∃ n e, d = .array n e)) →
      (match P.info? t with | some i => some (Value.agg (cs.extract off (off + i.size))) | none => none) = some v → ∃ v', (part t cs' off).run P w = .ok v' w ∧ VR m v v' := by
    intro d hu hd ha
    split at ha
    · rename_i i hi
      injection ha with ha; subst ha
      refine ⟨.agg (cs'.extract off (off + i.size)), by simp [part, run_isAgg_true hu hd, run_sizeOf' hi], ?_⟩
      have h1 := (hv.take (off + i.size)).drop off
      refine .agg _ _ (by have := h1.1; simp at this ⊢; omega) (fun j a b ha hb => h1.2 j a b ?_ ?_)
      · rw [← Array.getElem?_toList] at ha; simpa [List.extract_eq_take_drop, List.drop_take] using ha
      · rw [← Array.getElem?_toList] at hb; simpa [List.extract_eq_take_drop, List.drop_take] using hb
    · cases ha
  split at ha
  · rename_i fs hu; exact agg _ hu (.inl ⟨_, rfl⟩) ha
  · rename_i n e hu; exact agg _ hu (.inr ⟨_, _, rfl⟩) ha
  · rename_i d hn1 hn2 hu
    rw [← Array.getElem?_toList] at ha
    obtain ⟨v', a, b⟩ := hv.get ha
    rw [Array.getElem?_toList] at a
    exact ⟨v', by simp [part, run_isAgg_false hu hn1 hn2, a], b⟩
  · cases ha

theorem aField_sim {t : TypeId} {x x' v : Value} {f : Nat} (hx : VR m x x') (ha : aField P t x f = some v) (w : World) :
    ∃ v', (Instr.field t x' f).run P w = .ok v' w ∧ VR m v v' := by
  unfold aField at ha
  split at ha
  · rename_i fs hu
    split at ha
    · rename_i fd hf
      split at ha
      · obtain ⟨cs', rfl, hv⟩ := hx.agg_inv
        obtain ⟨v', a, b⟩ := aPart_sim hv ha w
        exact ⟨v', by simp [Instr.field, run_underlying hu, hf, asAgg, a], b⟩
      · cases ha
    · cases ha
  · cases ha

theorem sl_inv {k off len cap : Nat} {x' : Value} (hx : VR m (.slice (some ⟨k, off, none⟩) len cap) x') :
    (∃ loc cap', m k = some loc ∧ x' = .slice (some ⟨loc.blk, loc.dl + off, none⟩) len cap' ∧ ((isOpn cap = false ∧ cap' = cap) ∨ (isOpn cap = true ∧ len ≤ cap' ∧ loc.dl + off + cap' * loc.esz = loc.csz ∧ cap' ≤ maxLen))) ∨
    (len = 0 ∧ isOpn cap = true ∧ (.slice (some ⟨k, off, none⟩) len cap) = slE ∧ ∃ a c, x' = .slice (some a) 0 c) := by
  cases hx with
  | sl _ _ _ _ loc hk hc => exact .inl ⟨loc, cap, hk, rfl, .inl ⟨hc, rfl⟩⟩
  | slOpn _ _ _ _ cap' loc hk hc hl hz hm => exact .inl ⟨loc, cap', hk, rfl, .inr ⟨hc, hl, hz, hm⟩⟩
  | slEmp a c => exact .inr ⟨rfl, by decide, rfl, a, c, rfl⟩

theorem aIndexAddr_sim {t : TypeId} {x ix x' ix' v : Value} (hx : VR m x x') (hi : VR m ix ix') (ha : aIndexAddr P t x ix = some v) (w : World) :
    ∃ v', (Instr.indexAt t x' ix').run P w = .ok v' w ∧ VR m v v' := by
  unfold aIndexAddr at ha
  split at ha
  · rename_i ik i
    cases hi
    split at ha
    · rename_i len e k off hu
      obtain ⟨loc, hk, rfl⟩ := ptr_inv hx
      split at ha
      · rename_i hb
        split at ha
        · rename_i inf hinf
          injection ha with ha; subst ha
          refine ⟨.pointer (some ⟨loc.blk, loc.dl + (off + i.toNat * inf.size), none⟩), ?_, .ptr _ _ _ hk⟩
          simp [Instr.indexAt, asIntOf, run_underlying hu, Instr.sureAddr, hb, run_sizeOf' hinf, add_none, Nat.add_assoc]
        · cases ha
      · cases ha
    · rename_i e k off len cap hu
      split at ha
      · rename_i hb
        split at ha
        · rename_i inf hinf
          injection ha with ha; subst ha
          rcases sl_inv hx with ⟨loc, cap', hk, rfl, _⟩ | ⟨h0, _⟩
          · refine ⟨.pointer (some ⟨loc.blk, loc.dl + (off + i.toNat * inf.size), none⟩), ?_, .ptr _ _ _ hk⟩
            simp [Instr.indexAt, asIntOf, run_underlying hu, hb, run_sizeOf' hinf, add_none, Nat.add_assoc]
          · omega
        · cases ha
      · cases ha
    · cases ha
  · cases ha

theorem aIndex_sim {t : TypeId} {x ix x' ix' v : Value} (hx : VR m x x') (hi : VR m ix ix') (ha : aIndex P t x ix = some v) (w : World) :
    ∃ v', (Instr.index t x' ix').run P w = .ok v' w ∧ VR m v v' := by
  unfold aIndex at ha
  split at ha
  · rename_i ik i
    cases hi
    split at ha
    · rename_i len e cs hu
      obtain ⟨cs', rfl, hv⟩ := hx.agg_inv
      split at ha
      · rename_i hb
        split at ha
        · rename_i inf hinf
          obtain ⟨v', a, b⟩ := aPart_sim hv ha w
          exact ⟨v', by simp [Instr.index, asIntOf, run_underlying hu, hb, run_sizeOf' hinf, a], b⟩
        · cases ha
      · cases ha
    · rename_i s hu
      cases hx
      split at ha
      · rename_i h0
        split at ha
        · rename_i b hb
          injection ha with ha; subst ha
          have hb' : s[i.toNat]? = some b := by
            have hlt : i.toNat < s.data.toList.length := by
              rcases Nat.lt_or_ge i.toNat s.data.toList.length with h | h
              · exact h
              · rw [List.getElem?_eq_none h] at hb; cases hb
            rw [List.getElem?_eq_getElem hlt] at hb
            injection hb with hb
            have hlt2 : i.toNat < s.size := by simpa using hlt
            rw [getElem?_pos s i.toNat hlt2, ← hb]
            rfl
          exact ⟨_, by simp [Instr.index, asIntOf, run_underlying hu, h0, hb'], .int _ _⟩
        · cases ha
      · cases ha
    · cases ha
  · cases ha

theorem aExtract_sim {x x' v : Value} {i : Nat} (hx : VR m x x') (ha : aExtract x i = some v) (w : World) :
    ∃ v', (Instr.extract x' i).run P w = .ok v' w ∧ VR m v v' := by
  unfold aExtract at ha
  split at ha
  · obtain ⟨cs', rfl, hv⟩ := hx.tuple_inv
    rw [← Array.getElem?_toList] at ha
    obtain ⟨v', a, b⟩ := hv.get ha
    rw [Array.getElem?_toList] at a
    exact ⟨v', by simp [Instr.extract, a], b⟩
  · cases ha

end
end Go.AM
