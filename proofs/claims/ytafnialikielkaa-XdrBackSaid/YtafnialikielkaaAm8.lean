/- The abstract machine, part 8: one operation beside the model's. -/
import Derived.Test.YtafnialikielkaaAm7
namespace Go.AM
open Go

def aStore (P : Program) (h : Heap) (t : TypeId) (a x : Value) : Option Heap :=
  match a, P.info? t with
  | .pointer (some ⟨k, off, none⟩), some i => bif Nat.beq x.cells.size i.size then wrN h k off x.cells.toList else none
  | _, _ => none

def aBuiltin (P : Program) (h : Heap) (b : Builtin) (ts : List TypeId) (args : List Value) : Option (Value × Heap) :=
  match b, ts, args with
  | .append, [sT, xT], [s, x] => aAppend P h sT xT s x
  | .copy, dT :: _, [d, x] => aCopy P h dT d x
  | .len, t :: _, [x] => match aLen P t x with
    | some v => some (v, h)
    | none => none
  | .cap, t :: _, [x] => match aCap P t x with
    | some v => some (v, h)
    | none => none
  | .max, _, x :: l => match aFold aMax2 x l with
    | some v => some (v, h)
    | none => none
  | .min, _, x :: l => match aFold aMin2 x l with
    | some v => some (v, h)
    | none => none
  | _, _, _ => none

def withH (h : Heap) (v : Option Value) : Option (Value × Heap) :=
  match v with
  | some v => some (v, h)
  | none => none

def aOp (P : Program) (h : Heap) (o : Op) (ρ : Operand → Value) : Option (Value × Heap) :=
  match o with
  | .move x | .assign x => some (ρ x, h)
  | .pick c a b => match ρ c with
    | .bool t => some (bif t then ρ a else ρ b, h)
    | _ => none
  | .alloc e => aAlloc P h e
  | .box e x => aBox h e (ρ x)
  | .build t ps => withH h (aBuild P t (ps.toList.map fun p => (p.1, ρ p.2)))
  | .buildSlice t n ps => aBuildSlice P h t n (ps.toList.map fun p => (p.1, ρ p.2))
  | .load t a => withH h (aLoad P h t (ρ a))
  | .store t a x => match aStore P h t (ρ a) (ρ x) with
    | some h' => some (undef, h')
    | none => none
  | .nilCheck x => match ρ x with
    | .pointer (some a) => some (.pointer (some a), h)
    | _ => none
  | .binOp op t x y _ => withH h (aBin P op t x y (ρ x) (ρ y))
  | .unOp op _ x => withH h (aUn op (ρ x))
  | .convert s d x => aConv P h s d (ρ x)
  | .makeSlice t l c => aMake P h t (ρ l) (ρ c)
  | .slice t x lo hi mx => bif mx.isSome && !hi.isSome then none else withH h (aSlice P h t (ρ x) (lo.map ρ) (hi.map ρ) (mx.map ρ))
  | .fieldAddr s x f => withH h (aFieldAddr P s (ρ x) f)
  | .field t x f => withH h (aField P t (ρ x) f)
  | .indexAddr t x i => withH h (aIndexAddr P t (ρ x) (ρ i))
  | .index t x i => withH h (aIndex P t (ρ x) (ρ i))
  | .extract t i => withH h (aExtract (ρ t) i)
  | .call ⟨.builtin b, args, ts⟩ => aBuiltin P h b ts.toList (args.toList.map ρ)
  | _ => none

/-- The function that is called, and its arguments. -/
def aCallee (o : Op) (ρ : Operand → Value) : Option (FuncId × List Value) :=
  match o with
  | .call ⟨.value f, args, _⟩ => match ρ f with
    | .func (.func g) first cap => some (g, first.toList ++ args.toList.map ρ ++ cap.toList)
    | _ => none
  | _ => none

def opndOK (P : Program) : Operand → Bool
  | .tmp _ => true
  | .const v => plainB 6 v
  | .global g => Nat.blt g P.globals.size
  | .func _ => true

def opOK (P : Program) (o : Op) : Bool := o.operands.toList.all (opndOK P)

section
variable {P : Program} {m : Mp} {h : Heap} {w : World}

/-- The model's operation beside the abstract one. -/
def OSim (P : Program) (m : Mp) (h : Heap) (w : World) (s : Sem Next) (v : Value) (h' : Heap) : Prop :=
  ∃ nx v' m' w', s.run P w = .ok nx w' ∧ (nx = .value v' ∨ (nx = .skip ∧ v' = undef)) ∧ Rel P m' h' w' ∧ VR m' v v' ∧ Fr m h w m' h' w'

theorem OSim.of {s : Sem Value} {v : Value} {h' : Heap} (hs : Sim P m h w s v h') : OSim P m h w (do pure (.value (← s))) v h' := by
  obtain ⟨v', m', w', hr, R, hv, F⟩ := hs
  exact ⟨.value v', v', m', w', rb hr rfl, .inl rfl, R, hv, F⟩
theorem OSim.same {s : Sem Value} {v v' : Value} (R : Rel P m h w) (hr : s.run P w = .ok v' w) (hv : VR m v v') : OSim P m h w (do pure (.value (← s))) v h := .of (.same R hr hv)

theorem withH_some {h h' : Heap} {x : Option Value} {v : Value} (ha : withH h x = some (v, h')) : x = some v ∧ h' = h := by
  unfold withH at ha
  split at ha
  · injection ha with ha; injection ha with e1 e2; subst e1; exact ⟨rfl, e2.symm⟩
  · cases ha

theorem aCopy_sim (R : Rel P m h w) {dT : TypeId} {ts : Array TypeId} {ty : TypeId} {d x d' x' v : Value} {h' : Heap} (hts : ts[0]? = some dT) (hd : VR m d d') (hx : VR m x x') (ha : aCopy P h dT d x = some (v, h')) :
    Sim P m h w (Builtin.copy_ ts ty #[d', x']) v h' := by
  unfold aCopy at ha
  split at ha
  · rename_i e base dLen dCap hu
    split at ha
    · rename_i i hi
      split at ha
      · rename_i n news hsrc
        -- the source
        have src : ∃ k news', VRs m news news' ∧ (Builtin.lenOf x').run P w = .ok k w ∧ n = Nat.min k dLen ∧ (Builtin.firstCells i.size n x').run P w = .ok news'.toArray w ∧ (n = 0 → news' = []) := by
          split at hsrc
          · injection hsrc with hsrc; injection hsrc with e1 e2; subst e1; subst e2
            cases hx
            exact ⟨0, [], VRs.nil m, rfl, by simp, by simp [Builtin.firstCells], fun _ => rfl⟩
          · rename_i k off n0 cap
            cases hn : Nat.beq (Nat.min n0 dLen) 0 with
            | true =>
              rw [hn] at hsrc
              injection hsrc with hsrc; injection hsrc with e1 e2; subst e1; subst e2
              have h0 := Nat.eq_of_beq_eq_true hn
              rcases sl_inv hx with ⟨loc, cap', hk, rfl, _⟩ | ⟨h00, _, _, a, c, rfl⟩
              · exact ⟨n0, [], VRs.nil m, rfl, h0.symm, by simp [Builtin.firstCells, loadCells, loadCellsFrom], fun _ => rfl⟩
              · exact ⟨0, [], VRs.nil m, rfl, by simp, by simp [Builtin.firstCells, loadCells, loadCellsFrom], fun _ => rfl⟩
            | false =>
              rw [hn] at hsrc
              simp only [cond_false] at hsrc
              split at hsrc
              · rename_i l hl
                injection hsrc with hsrc; injection hsrc with e1 e2; subst e1; subst e2
                rcases sl_inv hx with ⟨loc, cap', hk, rfl, _⟩ | ⟨h00, _⟩
                · obtain ⟨l', hv, hlen, hc, _⟩ := rdN_sim R hk hl
                  exact ⟨n0, l', hv, rfl, rfl, run_firstCells_some w i.size _ _ n0 cap' l' (by rw [← hv.1, hlen]) hc, fun h0 => absurd h0 (beq_false hn)⟩
                · subst h00; exact absurd (by simp) (beq_false hn)
              · cases hsrc
          · rename_i s
            cases hn : Nat.beq i.size 1 with
            | false => rw [hn] at hsrc; cases hsrc
            | true =>
              rw [hn] at hsrc
              injection hsrc with hsrc; injection hsrc with e1 e2; subst e1; subst e2
              cases hx
              refine ⟨s.size, ((s.data.toList.take (Nat.min s.size dLen)).map fun b => Value.int .u8 b.toNat), ?_, rfl, rfl, ?_, fun h0 => by rw [h0]; rfl⟩
              · rw [show ((s.data.toList.take (Nat.min s.size dLen)).map fun b => Value.int .u8 b.toNat) = ((s.data.toList.take (Nat.min s.size dLen)).map fun b => Int.ofNat b.toNat).map (Value.int .u8) by simp; rfl]
                refine ⟨rfl, fun j a b ha hb => ?_⟩
                rw [ha] at hb; injection hb with hb; subst hb
                rw [List.getElem?_map] at ha
                cases hq : ((s.data.toList.take (Nat.min s.size dLen)).map fun b => Int.ofNat b.toNat)[j]? with
                | none => rw [hq] at ha; cases ha
                | some q => rw [hq] at ha; injection ha with ha; subst ha; exact .int _ _
              · simp only [Builtin.firstCells, Sem.run_pure]
                congr 1
                apply Array.ext'
                simp [List.map_take, List.extract_eq_take_drop]
          · cases hsrc
        obtain ⟨k, news', hv, hlenr, hnk, hfc, hnil⟩ := src
        have pre : ∀ (base' : Option Addr) (c' : Nat) (w2 : World), (∀ a, base' = some a → (storeCells a news').run P w = .ok () w2) → (base' = none → w2 = w) →
            (Builtin.copy_ ts ty #[.slice base' dLen c', x']).run P w = .ok (.int .i64 n) w2 := by
          intro base' c' w2 hs hb
          have h0 : (Builtin.copy_ ts ty #[.slice base' dLen c', x']).run P w = (do
              let n := Nat.min (← Builtin.lenOf x') dLen
              let cells ← Builtin.firstCells (← sizeOf e) n x'
              if let some a := base' then storeCells a cells.toList
              pure (goInt n) : Sem Value).run P w := by
            unfold Builtin.copy_
            simp only [hts]
            exact rb (run_underlying hu w) rfl
          rw [h0]
          refine rb hlenr (rb (run_sizeOf' hi w) ?_)
          rw [← hnk]
          refine rb hfc ?_
          cases base' with
          | none => rw [hb rfl]; rfl
          | some a => exact rb (hs a rfl) rfl
        cases hn : Nat.beq n 0 with
        | true =>
          rw [hn] at ha
          simp only [cond_true] at ha
          injection ha with ha; injection ha with e1 e2; subst e1; subst e2
          have h0 := Nat.eq_of_beq_eq_true hn
          have hz := hnil h0
          subst h0
          have go : ∀ (b : Option Addr) (c : Nat), (Builtin.copy_ ts ty #[.slice b dLen c, x']).run P w = .ok (.int .i64 0) w := fun b c => by
            have := pre b c w (fun a _ => by rw [hz]; rfl) (fun _ => rfl)
            simpa using this
          cases base with
          | none => cases hd; exact .same R (go _ _) (.int _ _)
          | some a =>
            obtain ⟨kk, off, sp⟩ := a
            cases hd with
            | sl _ _ _ _ loc hk ho => exact .same R (go _ _) (.int _ _)
            | slOpn _ _ _ _ cap' loc hk ho hl' _ _ => exact .same R (go _ _) (.int _ _)
            | slEmp a c => exact .same R (go _ _) (.int _ _)
        | false =>
          rw [hn] at ha
          simp only [cond_false] at ha
          split at ha
          · rename_i kk off
            split at ha
            · rename_i h2 hw
              injection ha with ha; injection ha with e1 e2; subst e1; subst e2
              rcases sl_inv hd with ⟨loc, cap', hk, rfl, _⟩ | ⟨h00, _⟩
              · obtain ⟨hst, R', F'⟩ := wrN_sim R hk hw hv
                exact ⟨_, m, _, pre _ _ _ (fun a ha => by injection ha with ha; subst ha; exact hst) (fun hh => by cases hh), R', .int _ _, F'⟩
              · subst h00; exact absurd (by rw [hnk]; simp) (beq_false hn)
            · cases ha
          · cases ha
      · cases ha
    · cases ha
  · cases ha

theorem aLen_sim {t ty : TypeId} {ts : Array TypeId} {x x' v : Value} (hts : ts[0]? = some t) (hx : VR m x x') (ha : aLen P t x = some v) (w : World) : (Builtin.len_ ts ty #[x']).run P w = .ok v w ∧ VR m v v := by
  unfold aLen at ha
  split at ha
  · rename_i hu; injection ha with ha; subst ha; cases hx
    exact ⟨by unfold Builtin.len_; simp only [hts]; exact rb (run_underlying hu w) rfl, .int _ _⟩
  · rename_i hu; injection ha with ha; subst ha
    exact ⟨by unfold Builtin.len_; simp only [hts]; exact rb (run_underlying hu w) rfl, .int _ _⟩
  · rename_i hu; injection ha with ha; subst ha
    cases hx <;> exact ⟨by unfold Builtin.len_; simp only [hts]; exact rb (run_underlying hu w) rfl, .int _ _⟩
  · rename_i hu; injection ha with ha; subst ha; cases hx
    exact ⟨by unfold Builtin.len_; simp only [hts]; exact rb (run_underlying hu w) rfl, .int _ _⟩
  · cases ha

theorem aCap_sim {t ty : TypeId} {ts : Array TypeId} {x x' v : Value} (hts : ts[0]? = some t) (hx : VR m x x') (ha : aCap P t x = some v) (w : World) : (Builtin.cap_ ts ty #[x']).run P w = .ok v w ∧ VR m v v := by
  unfold aCap at ha
  split at ha
  · rename_i e b n c hu
    cases ho : isOpn c with
    | true => rw [ho] at ha; cases ha
    | false =>
      rw [ho] at ha; injection ha with ha; subst ha
      have go : ∀ b', (Builtin.cap_ ts ty #[.slice b' n c]).run P w = .ok (.int .i64 c) w := fun b' => by
        unfold Builtin.cap_
        simp only [hts]
        exact rb (run_underlying hu w) rfl
      cases hx with
      | slNil => exact ⟨go _, .int _ _⟩
      | sl => exact ⟨go _, .int _ _⟩
      | slOpn _ _ _ _ _ _ _ ho' => rw [ho'] at ho; cases ho
      | slEmp => exact absurd ho (by decide)
  · cases ha

theorem aFold_sim {f : Value → Value → Option Value} {g : Value → Value → Sem Value} (hf : ∀ x y x' y' v, VR m x x' → VR m y y' → f x y = some v → ∀ w : World, ∃ v', (g x' y').run P w = .ok v' w ∧ VR m v v') :
    ∀ (l l' : List Value) (x x' v : Value), VRs m l l' → VR m x x' → aFold f x l = some v → ∀ w : World, ∃ v', (l'.foldlM g x').run P w = .ok v' w ∧ VR m v v'
  | [], l', x, x', v, hl, hx, ha, w => by
    rw [VRs.nil_inv hl]
    simp only [aFold] at ha; injection ha with ha; subst ha
    exact ⟨x', rfl, hx⟩
  | y :: l, l', x, x', v, hl, hx, ha, w => by
    obtain ⟨y', l2, rfl, h1, h2⟩ := VRs.cons_inv hl
    simp only [aFold] at ha
    split at ha
    · rename_i u hu
      obtain ⟨u', a, b⟩ := hf _ _ _ _ _ hx h1 hu w
      obtain ⟨v', c, d⟩ := aFold_sim hf l l2 u u' v h2 b ha w
      exact ⟨v', rb a c, d⟩
    · cases ha

theorem aMax2_sim (x y x' y' v : Value) (hx : VR m x x') (hy : VR m y y') (ha : aMax2 x y = some v) (w : World) : ∃ v', (Builtin.max2 x' y').run P w = .ok v' w ∧ VR m v v' := by
  unfold aMax2 at ha
  split at ha
  · injection ha with ha; subst ha; cases hx; cases hy; exact ⟨_, rfl, .int _ _⟩
  · cases ha
theorem aMin2_sim (x y x' y' v : Value) (hx : VR m x x') (hy : VR m y y') (ha : aMin2 x y = some v) (w : World) : ∃ v', (Builtin.min2 x' y').run P w = .ok v' w ∧ VR m v v' := by
  unfold aMin2 at ha
  split at ha
  · injection ha with ha; subst ha; cases hx; cases hy; exact ⟨_, rfl, .int _ _⟩
  · cases ha

theorem aBuiltin_sim (R : Rel P m h w) {b : Builtin} {ts : Array TypeId} {ty : TypeId} {cs : Array Bool} {args : List Value} {args' : Array Value} {v : Value} {h' : Heap} (hv : VRs m args args'.toList)
    (ha : aBuiltin P h b ts.toList args = some (v, h')) : OSim P m h w (builtin b ts ty cs args') v h' := by
  obtain ⟨l', rfl⟩ : ∃ l : List Value, args' = l.toArray := ⟨args'.toList, by simp⟩
  obtain ⟨lt, rfl⟩ : ∃ l : List TypeId, ts = l.toArray := ⟨ts.toList, by simp⟩
  simp only at hv ha
  unfold aBuiltin at ha
  split at ha
  · rename_i sT xT s x
    obtain ⟨s', l2, rfl, h1, h2⟩ := VRs.cons_inv hv
    obtain ⟨x', l3, rfl, h3, h4⟩ := VRs.cons_inv h2
    rw [VRs.nil_inv h4]
    exact .of (aAppend_sim R h1 h3 ha)
  · rename_i dT rest d x
    obtain ⟨s', l2, rfl, h1, h2⟩ := VRs.cons_inv hv
    obtain ⟨x', l3, rfl, h3, h4⟩ := VRs.cons_inv h2
    rw [VRs.nil_inv h4]
    exact .of (aCopy_sim R (by simp) h1 h3 ha)
  · rename_i t rest x
    obtain ⟨s', l2, rfl, h1, h2⟩ := VRs.cons_inv hv
    rw [VRs.nil_inv h2]
    split at ha
    · rename_i u hu
      injection ha with ha; injection ha with e1 e2; subst e1; subst e2
      have := aLen_sim (ty := ty) (ts := (t :: rest).toArray) (by simp) h1 hu w
      exact .same R this.1 this.2
    · cases ha
  · rename_i t rest x
    obtain ⟨s', l2, rfl, h1, h2⟩ := VRs.cons_inv hv
    rw [VRs.nil_inv h2]
    split at ha
    · rename_i u hu
      injection ha with ha; injection ha with e1 e2; subst e1; subst e2
      have := aCap_sim (ty := ty) (ts := (t :: rest).toArray) (by simp) h1 hu w
      exact .same R this.1 this.2
    · cases ha
  · rename_i x l
    obtain ⟨x', l2, rfl, h1, h2⟩ := VRs.cons_inv hv
    split at ha
    · rename_i u hu
      injection ha with ha; injection ha with e1 e2; subst e1; subst e2
      obtain ⟨v', a, b⟩ := aFold_sim (P := P) aMax2_sim l l2 x x' u h2 h1 hu w
      exact .same R (s := Builtin.max_ lt.toArray ty (x' :: l2).toArray) (by simpa [Builtin.max_] using a) b
    · cases ha
  · rename_i x l
    obtain ⟨x', l2, rfl, h1, h2⟩ := VRs.cons_inv hv
    split at ha
    · rename_i u hu
      injection ha with ha; injection ha with e1 e2; subst e1; subst e2
      obtain ⟨v', a, b⟩ := aFold_sim (P := P) aMin2_sim l l2 x x' u h2 h1 hu w
      exact .same R (s := Builtin.min_ lt.toArray ty (x' :: l2).toArray) (by simpa [Builtin.min_] using a) b
    · cases ha
  · cases ha

theorem aStore_sim (R : Rel P m h w) {t : TypeId} {a x a' x' : Value} {h' : Heap} (hA : VR m a a') (hx : VR m x x') (ha : aStore P h t a x = some h') :
    ∃ w', (Instr.storeAt t a' x').run P w = .ok () w' ∧ Rel P m h' w' ∧ Fr m h w m h' w' := by
  unfold aStore at ha
  split at ha
  · rename_i k off i hi
    cases hs : Nat.beq x.cells.size i.size with
    | false => rw [hs] at ha; cases ha
    | true =>
      rw [hs] at ha
      simp only [cond_true] at ha
      obtain ⟨loc, hk, rfl⟩ := ptr_inv hA
      obtain ⟨hst, R', F'⟩ := wrN_sim R hk ha hx.cells
      have hsz : x'.cells.size = i.size := by
        have := hx.cells.1
        simp only [Array.length_toList] at this
        rw [← this]; exact Nat.eq_of_beq_eq_true hs
      refine ⟨_, ?_, R', F'⟩
      refine rb (a := ⟨loc.blk, loc.dl + off, none⟩) (w1 := w) rfl (rb (run_sizeOf' hi w) (rn (fun hne => hne hsz) hst))
  · cases ha


theorem opndOK_all {o : Op} (ho : opOK P o = true) : ∀ x ∈ o.operands.toList, opndOK P x = true := List.all_eq_true.1 ho

theorem VRs.map {ρ ρ' : Operand → Value} (hρ : ∀ x, opndOK P x = true → VR m (ρ x) (ρ' x)) : ∀ (l : List Operand), (∀ x ∈ l, opndOK P x = true) → VRs m (l.map ρ) (l.map ρ')
  | [], _ => VRs.nil m
  | x :: l, h => VRs.cons (hρ x (h x (by simp))) (VRs.map hρ l (fun y hy => h y (by simp [hy])))

theorem VRp.map {ρ ρ' : Operand → Value} (hρ : ∀ x, opndOK P x = true → VR m (ρ x) (ρ' x)) : ∀ (l : List (Nat × Operand)), (∀ x ∈ l, opndOK P x.2 = true) → VRp m (l.map fun p => (p.1, ρ p.2)) (l.map fun p => (p.1, ρ' p.2))
  | [], _ => ⟨rfl, fun i p p' h _ => by simp at h⟩
  | x :: l, h => by
    have ih := VRp.map hρ l (fun y hy => h y (by simp [hy]))
    refine ⟨by simp, fun i p p' hp hp' => ?_⟩
    cases i with
    | zero => simp at hp hp'; subst hp; subst hp'; exact ⟨rfl, hρ _ (h x (by simp))⟩
    | succ i => exact ih.2 i p p' (by simpa using hp) (by simpa using hp')

/-- What a call of a builtin is to the model. -/
theorem exec_builtin (ρ' : Operand → Value) (o : Oper) (b : Builtin) (args : Array Operand) (ts : Array TypeId) (hop : o.op = .call ⟨.builtin b, args, ts⟩) (w : World) :
    (execOp ρ' o).run P w = (builtin b ts o.type (args.map fun | .const _ => true | _ => false) (args.map ρ')).run P w := by
  unfold execOp
  rw [hop]
  simp only [resolve, Sem.run_bind, Sem.run_pure, Result.andThen_ok]
  rfl

theorem aOp_sim (R : Rel P m h w) {o : Oper} {ρ ρ' : Operand → Value} {v : Value} {h' : Heap} (ho : opOK P o.op = true) (hρ : ∀ x, opndOK P x = true → VR m (ρ x) (ρ' x)) (ha : aOp P h o.op ρ = some (v, h')) :
    OSim P m h w (execOp ρ' o) v h' := by
  have hall := opndOK_all ho
  have get : ∀ x, x ∈ o.op.operands.toList → VR m (ρ x) (ρ' x) := fun x hx => hρ x (hall x hx)
  unfold aOp at ha
  split at ha
  · rename_i x hop
    injection ha with ha; injection ha with e1 e2; subst e1; subst e2
    rw [hop] at get
    exact ⟨.value (ρ' x), ρ' x, m, w, by simp [execOp, hop], .inl rfl, R, get x (by simp [Op.operands]), Fr.refl m h w⟩
  · rename_i x hop
    injection ha with ha; injection ha with e1 e2; subst e1; subst e2
    rw [hop] at get
    exact ⟨.value (ρ' x), ρ' x, m, w, by simp [execOp, hop], .inl rfl, R, get x (by simp [Op.operands]), Fr.refl m h w⟩
  · rename_i c a b hop
    rw [hop] at get
    split at ha
    · rename_i t hc
      injection ha with ha; injection ha with e1 e2; subst e1; subst e2
      have hcv := get c (by simp [Op.operands])
      rw [hc] at hcv
      have hc' : ρ' c = .bool t := by cases hcv' : ρ' c <;> rw [hcv'] at hcv <;> cases hcv; rfl
      refine ⟨.value (if t = true then ρ' a else ρ' b), _, m, w, by simp [execOp, hop, hc', asBool], .inl rfl, R, ?_, Fr.refl m h w⟩
      cases t
      · exact get b (by simp [Op.operands])
      · exact get a (by simp [Op.operands])
    · cases ha
  · rename_i e hop
    have := OSim.of (aAlloc_sim R ha)
    unfold execOp; rw [hop]; exact this
  · rename_i e x hop
    rw [hop] at get
    have := OSim.of (aBox_sim R (get x (by simp [Op.operands])) ha)
    unfold execOp; rw [hop]; exact this
  · rename_i t ps hop
    rw [hop] at hall
    obtain ⟨hb, he⟩ := withH_some ha; clear ha; subst he
    have hp := VRp.map hρ ps.toList (fun x hx => hall x.2 (by simp only [Op.operands, List.mem_map]; exact ⟨x, hx, rfl⟩))
    obtain ⟨v', a, b⟩ := aBuild_sim (parts' := ps.map fun p => (p.1, ρ' p.2)) (by simpa using hp) hb w
    have := OSim.same R a b
    unfold execOp; rw [hop]; exact this
  · rename_i t n ps hop
    rw [hop] at hall
    have hp := VRp.map hρ ps.toList (fun x hx => hall x.2 (by simp only [Op.operands, List.mem_map]; exact ⟨x, hx, rfl⟩))
    have := OSim.of (aBuildSlice_sim R (parts' := ps.map fun p => (p.1, ρ' p.2)) (by simpa using hp) ha)
    unfold execOp; rw [hop]; exact this
  · rename_i t a hop
    rw [hop] at get
    obtain ⟨hb, he⟩ := withH_some ha; clear ha; subst he
    obtain ⟨v', c, d⟩ := aLoad_sim R (get a (by simp [Op.operands])) hb
    have := OSim.same R c d
    unfold execOp; rw [hop]; exact this
  · rename_i t a x hop
    rw [hop] at get
    split at ha
    · rename_i h2 hs
      injection ha with ha; injection ha with e1 e2; subst e1; subst e2
      obtain ⟨w', hr, R', F'⟩ := aStore_sim R (get a (by simp [Op.operands])) (get x (by simp [Op.operands])) hs
      exact ⟨.skip, undef, m, w', by unfold execOp; rw [hop]; exact rb hr rfl, .inr ⟨rfl, rfl⟩, R', VR.undef m, F'⟩
    · cases ha
  · rename_i x hop
    rw [hop] at get
    split at ha
    · rename_i a hx
      injection ha with ha; injection ha with e1 e2; subst e1; subst e2
      have hv := get x (by simp [Op.operands])
      rw [hx] at hv
      refine ⟨.value (ρ' x), ρ' x, m, w, ?_, .inl rfl, R, hv, Fr.refl m h w⟩
      unfold execOp; rw [hop]
      dsimp only
      cases hv' : ρ' x <;> rw [hv'] at hv <;> cases hv
      rfl
    · cases ha
  · rename_i op t x y ty hop
    rw [hop] at get
    obtain ⟨hb, he⟩ := withH_some ha; clear ha; subst he
    obtain ⟨g, r, hv⟩ := aBin_sim (get x (by simp [Op.operands])) (get y (by simp [Op.operands])) hb w
    have := OSim.same (s := do eqGuard op t x y (ρ' x) (ρ' y); binOp op t (ρ' x) (ρ' y)) R (rb g r) hv
    unfold execOp; rw [hop]; exact this
  · rename_i op t x hop
    rw [hop] at get
    obtain ⟨hb, he⟩ := withH_some ha; clear ha; subst he
    obtain ⟨r, hv⟩ := aUn_sim (P := P) (get x (by simp [Op.operands])) hb w
    have := OSim.same R r hv
    unfold execOp; rw [hop]; exact this
  · rename_i s d x hop
    rw [hop] at get
    have := OSim.of (aConv_sim R (get x (by simp [Op.operands])) ha)
    unfold execOp; rw [hop]; exact this
  · rename_i t l c hop
    rw [hop] at get
    have := OSim.of (aMake_sim R (get l (by simp [Op.operands])) (get c (by simp [Op.operands])) ha)
    unfold execOp; rw [hop]; exact this
  · rename_i t x lo hi mx hop
    rw [hop] at get
    cases hno : mx.isSome && !hi.isSome with
    | true => rw [hno] at ha; cases ha
    | false =>
      rw [hno] at ha
      simp only [cond_false] at ha
      obtain ⟨hb, he⟩ := withH_some ha; clear ha; subst he
      have ov : ∀ y : Option Operand, (∀ z, y = some z → z ∈ (Op.slice t x lo hi mx).operands.toList) → VRo m (y.map ρ) (y.map ρ') := fun y hy => by
        cases y with
        | none => trivial
        | some z => exact get z (hy z rfl)
      obtain ⟨v', c, d⟩ := aSlice_sim R (get x (by simp [Op.operands])) (ov lo (fun z hz => by subst hz; simp [Op.operands])) (ov hi (fun z hz => by subst hz; simp [Op.operands])) (ov mx (fun z hz => by subst hz; simp [Op.operands]))
        (by cases mx <;> cases hi <;> simp_all) hb
      have := OSim.same R c d
      unfold execOp; rw [hop]; exact this
  · rename_i s x f hop
    rw [hop] at get
    obtain ⟨hb, he⟩ := withH_some ha; clear ha; subst he
    obtain ⟨v', c, d⟩ := aFieldAddr_sim (get x (by simp [Op.operands])) hb w
    have := OSim.same R c d
    unfold execOp; rw [hop]; exact this
  · rename_i s x f hop
    rw [hop] at get
    obtain ⟨hb, he⟩ := withH_some ha; clear ha; subst he
    obtain ⟨v', c, d⟩ := aField_sim (get x (by simp [Op.operands])) hb w
    have := OSim.same R c d
    unfold execOp; rw [hop]; exact this
  · rename_i t x i hop
    rw [hop] at get
    obtain ⟨hb, he⟩ := withH_some ha; clear ha; subst he
    obtain ⟨v', c, d⟩ := aIndexAddr_sim (get x (by simp [Op.operands])) (get i (by simp [Op.operands])) hb w
    have := OSim.same R c d
    unfold execOp; rw [hop]; exact this
  · rename_i t x i hop
    rw [hop] at get
    obtain ⟨hb, he⟩ := withH_some ha; clear ha; subst he
    obtain ⟨v', c, d⟩ := aIndex_sim (get x (by simp [Op.operands])) (get i (by simp [Op.operands])) hb w
    have := OSim.same R c d
    unfold execOp; rw [hop]; exact this
  · rename_i t i hop
    rw [hop] at get
    obtain ⟨hb, he⟩ := withH_some ha; clear ha; subst he
    obtain ⟨v', c, d⟩ := aExtract_sim (P := P) (get t (by simp [Op.operands])) hb w
    have := OSim.same R c d
    unfold execOp; rw [hop]; exact this
  · rename_i b args ts hop
    rw [hop] at hall
    have hv := VRs.map hρ args.toList (fun x hx => hall x (by simp [Op.operands, Call.operands, hx]))
    have := aBuiltin_sim R (ty := o.type) (cs := args.map fun | .const _ => true | _ => false) (args' := args.map ρ') (by simpa using hv) ha
    obtain ⟨nx, v', m', w', hr, rest⟩ := this
    exact ⟨nx, v', m', w', (exec_builtin ρ' o b args ts hop w).trans hr, rest⟩
  · cases ha
end
end Go.AM
