/- The abstract machine, part 3: operations that neither write nor make memory, each beside the model's. -/
import Derived.Test.YtanknjpcgceccaaLims0
import Derived.ChangeKeysEq
import Derived.Lib.Strings
import Derived.Laws.StructEq

namespace Go.AM
open Go
def aLoad (P : Program) (h : Heap) (t : TypeId) (x : Value) : Option Value :=
  match x with
  | .pointer (some ⟨k, off, none⟩) =>
    match P.underlying t with
    | some (.struct _) | some (.array _ _) => match P.info? t with
      | some i => match rdN h k off i.size with
        | some l => some (.agg l.toArray)
        | none => none
      | none => none
    | some _ => rd1 h k off
    | none => none
  | _ => none
def aIntBin (op : BinOp) (k : IntKind) (a b : Int) : Option Value :=
  match op with
  | .add => some (.int k (k.wrap (a + b)))
  | .sub => some (.int k (k.wrap (a - b)))
  | .mul => some (.int k (k.wrap (a * b)))
  | .quo => if b = 0 then none else some (.int k (k.wrap (a.tdiv b)))
  | .rem => if b = 0 then none else some (.int k (a.tmod b))
  | .and => some (.int k (k.wrap (BitVec.ofInt k.bits a &&& BitVec.ofInt k.bits b).toNat))
  | .or => some (.int k (k.wrap (BitVec.ofInt k.bits a ||| BitVec.ofInt k.bits b).toNat))
  | .xor => some (.int k (k.wrap (BitVec.ofInt k.bits a ^^^ BitVec.ofInt k.bits b).toNat))
  | .andNot => some (.int k (k.wrap (BitVec.ofInt k.bits a &&& ~~~ BitVec.ofInt k.bits b).toNat))
  | .eql => some (.bool (a == b))
  | .neq => some (.bool (a != b))
  | .lss => some (.bool (decide (a < b)))
  | .leq => some (.bool (decide (a ≤ b)))
  | .gtr => some (.bool (decide (a > b)))
  | .geq => some (.bool (decide (a ≥ b)))
  | _ => none
def aStrBin (op : BinOp) (x y : ByteArray) : Option Value :=
  match op with
  | .add => if ((x.size + y.size : Nat) : Int) > IntKind.i64.max then none else some (.string (x ++ y))
  | .eql => some (.bool (x.data.toList == y.data.toList))
  | .neq => some (.bool (!(x.data.toList == y.data.toList)))
  | .lss => some (.bool (Op.bytesLess x.data.toList y.data.toList))
  | _ => none
def aPart (P : Program) (t : TypeId) (cs : Array Value) (off : Nat) : Option Value :=
  match P.underlying t with
  | some (.struct _) | some (.array _ _) => match P.info? t with
    | some i => some (.agg (cs.extract off (off + i.size)))
    | none => none
  | some _ => cs[off]?
  | none => none
def eqFs (g : TypeId → Value → Value → Option Bool) (P : Program) (xs ys : Array Value) : List Field → Option Bool
  | [] => some true
  | f :: fs => if f.name ≠ "_" then (match aPart P f.type xs f.offset, aPart P f.type ys f.offset with
      | some a, some b => match g f.type a b with
        | some true => eqFs g P xs ys fs
        | some false => some false
        | none => none
      | _, _ => none) else eqFs g P xs ys fs
def aEqF : Nat → Program → TypeId → Value → Value → Option Bool
  | 0, _, _, _, _ => none
  | d + 1, P, t, x, y =>
    match P.underlying t, x, y with
    | some .bool, .bool a, .bool b => some (a == b)
    | some (.int _), .int k a, .int k' b => if k = k' then some (a == b) else none
    | some .string, .string a, .string b => some (a == b)
    | some (.pointer _), .pointer none, .pointer b => some b.isNone
    | some (.pointer _), .pointer (some _), .pointer none => some false
    | some (.interface _), .nilIface, .nilIface => some true
    | some (.interface _), .nilIface, .iface _ _ => some false
    | some (.interface _), .iface _ _, .nilIface => some false
    | some (.interface _), .iface tx vx, .iface ty vy =>
      if tx ≠ ty then some false else
      match P.info? tx with
      | some i => if i.comparable then aEqF d P tx vx vy else none
      | none => none
    | some (.slice _), .slice none _ _, .slice b _ _ => some b.isNone
    | some (.slice _), .slice (some _) _ _, .slice none _ _ => some false
    | some (.map _ _), .map none, .map b => some b.isNone
    | some (.map _ _), .map (some _), .map none => some false
    | some (.func _ _ _), .nilFunc, .nilFunc => some true
    | some (.func _ _ _), .nilFunc, .func _ _ _ => some false
    | some (.func _ _ _), .func _ _ _, .nilFunc => some false
    | some (.struct fs), .agg xs, .agg ys => if P.stoodInHeld t = true then none else eqFs (fun t a b => aEqF d P t a b) P xs ys fs.toList
    | _, _, _ => none
def isConstB : Operand → Bool
  | .const _ => true
  | _ => false
def aBin (P : Program) (op : BinOp) (t : TypeId) (xo yo : Operand) (x y : Value) : Option Value :=
  match op, x, y with
  | .shl, .int k a, .int _ b => if b < 0 then none else some (.int k (k.wrap (a * 2 ^ (min b.toNat k.bits))))
  | .shr, .int k a, .int _ b => if b < 0 then none else some (.int k (a.fdiv (2 ^ (min b.toNat k.bits))))
  | op, .int k a, .int k' b => if k = k' then aIntBin op k a b else none
  | op, .string a, .string b => aStrBin op a b
  | .eql, .nilIface, .nilIface => if isConstB xo || isConstB yo then (aEqF 8 P t .nilIface .nilIface).map .bool else none
  | .neq, .nilIface, .nilIface => if isConstB xo || isConstB yo then (aEqF 8 P t .nilIface .nilIface).map fun b => .bool (!b) else none
  | .eql, .agg xs, .agg ys => if P.eqGuardType P.depth t = true then none else (aEqF 8 P t (.agg xs) (.agg ys)).map .bool
  | .neq, .agg xs, .agg ys => if P.eqGuardType P.depth t = true then none else (aEqF 8 P t (.agg xs) (.agg ys)).map fun b => .bool (!b)
  | _, .agg _, _ => none
  | .eql, x, y => (aEqF 8 P t x y).map .bool
  | .neq, x, y => (aEqF 8 P t x y).map fun b => .bool (!b)
  | _, _, _ => none
def aUn (op : UnOp) (x : Value) : Option Value :=
  match op, x with
  | .neg, .int k n => some (.int k (k.wrap (0 - n)))
  | .xor, .int k n => some (.int k (k.wrap (BitVec.ofInt k.bits (if k.signed then -1 else k.max) ^^^ BitVec.ofInt k.bits n).toNat))
  | .not, .bool b => some (.bool (!b))
  | _, _ => none
def aBound (x : Value) (y : Nat) : Option Nat :=
  match x with
  | .int _ i => if 0 ≤ i ∧ i ≤ y then some i.toNat else none
  | _ => none
def aBoundO (x : Option Value) (y d : Nat) : Option Nat :=
  match x with
  | some v => aBound v y
  | none => some d
def aSlice (P : Program) (hp : Heap) (t : TypeId) (x : Value) (lo hi mx : Option Value) : Option Value :=
  match P.underlying t, x with
  | some .string, .string s =>
    match mx with
    | some _ => none
    | none => match aBoundO hi s.size s.size with
      | some h => match aBoundO lo h 0 with
        | some l => some (.string (s.extract l h))
        | none => none
      | none => none
  | some (.slice e), .slice base len cap =>
    match P.info? e with
    | some i =>
      bif isOpn cap then
        match mx with
        | some _ => none
        | none => match aBoundO hi len len with
          | some h => match aBoundO lo h 0 with
            | some l => match base with
              | some ⟨k, off, none⟩ => bif Nat.beq l 0 then some (.slice base h cap) else bif Nat.blt l len then (match hp.get k with | some (.cells _ el _) => bif Nat.beq el e then some (.slice (some ⟨k, off + l * i.size, none⟩) (h - l) opnCap) else none | _ => none) else some slE
              | _ => none
            | none => none
          | none => none
      else
        match aBoundO mx cap cap with
        | some m => match aBoundO hi m len with
          | some h => match aBoundO lo h 0 with
            | some l => match base with
              | some ⟨k, off, none⟩ => some (.slice (some ⟨k, bif Nat.beq m l then off else off + l * i.size, none⟩) (h - l) (m - l))
              | some _ => none
              | none => some (.slice none (h - l) (m - l))
            | none => none
          | none => none
        | none => none
    | none => none
  | some (.array n e), .pointer (some ⟨k, off, none⟩) =>
    match P.info? e with
    | some i =>
      bif isOpn n then none else
      match aBoundO mx n n with
      | some m => match aBoundO hi m n with
        | some h => match aBoundO lo h 0 with
          | some l => some (.slice (some ⟨k, bif Nat.beq m l then off else off + l * i.size, none⟩) (h - l) (m - l))
          | none => none
        | none => none
      | none => none
    | none => none
  | _, _ => none
def aFieldAddr (P : Program) (s : TypeId) (x : Value) (f : Nat) : Option Value :=
  match P.underlying s with
  | some (.struct fs) => match fs[f]? with
    | some fd => match P.info? fd.type with
      | some i => match x with
        | .pointer (some ⟨k, off, none⟩) => bif Nat.beq i.size 0 then none else some (.pointer (some ⟨k, off + fd.offset, none⟩))
        | _ => none
      | none => none
    | none => none
  | _ => none
def aField (P : Program) (t : TypeId) (x : Value) (f : Nat) : Option Value :=
  match P.underlying t with
  | some (.struct fs) => match fs[f]? with
    | some fd => match x with
      | .agg cs => aPart P fd.type cs fd.offset
      | _ => none
    | none => none
  | _ => none
def aIndexAddr (P : Program) (t : TypeId) (x ix : Value) : Option Value :=
  match ix with
  | .int _ i =>
    match P.underlying t, x with
    | some (.array len e), .pointer (some ⟨k, off, none⟩) =>
      if 0 ≤ i ∧ i < len then match P.info? e with
        | some inf => some (.pointer (some ⟨k, off + i.toNat * inf.size, none⟩))
        | none => none
      else none
    | some (.slice e), .slice (some ⟨k, off, none⟩) len _ =>
      if 0 ≤ i ∧ i < len then match P.info? e with
        | some inf => some (.pointer (some ⟨k, off + i.toNat * inf.size, none⟩))
        | none => none
      else none
    | _, _ => none
  | _ => none
def aIndex (P : Program) (t : TypeId) (x ix : Value) : Option Value :=
  match ix with
  | .int _ i =>
    match P.underlying t, x with
    | some (.array len e), .agg cs =>
      if 0 ≤ i ∧ i < len then match P.info? e with
        | some inf => aPart P e cs (i.toNat * inf.size)
        | none => none
      else none
    | some .string, .string s => if 0 ≤ i then (match s.data.toList[i.toNat]? with | some b => some (.int .u8 b.toNat) | none => none) else none
    | _, _ => none
  | _ => none
def aExtract (x : Value) (i : Nat) : Option Value :=
  match x with
  | .tuple vs => vs[i]?
  | _ => none
section
variable {P : Program} {m : Mp} {h : Heap} {w : World}
theorem run_sizeOf' {t : TypeId} {i : TypeInfo} (hi : P.info? t = some i) (w : World) : (sizeOf t).run P w = .ok i.size w := by
  simp [sizeOf, run_typeInfo w hi]
theorem run_isAgg_true {t : TypeId} {d : TypeDesc} (hu : P.underlying t = some d) (hd : (∃ fs, d = .struct fs) ∨ (∃ n e, d = .array n e)) (w : World) : (isAgg t).run P w = .ok true w := by
  rcases hd with ⟨fs, rfl⟩ | ⟨n, e, rfl⟩ <;> simp [isAgg, run_underlying hu]
theorem run_isAgg_false {t : TypeId} {d : TypeDesc} (hu : P.underlying t = some d) (h1 : ∀ fs, d ≠ .struct fs) (h2 : ∀ n e, d ≠ .array n e) (w : World) : (isAgg t).run P w = .ok false w := by
  cases d <;> simp_all [isAgg, run_underlying hu]
theorem ptr_inv {k off : Nat} {x' : Value} (hx : VR m (.pointer (some ⟨k, off, none⟩)) x') : ∃ loc, m k = some loc ∧ x' = .pointer (some ⟨loc.blk, loc.dl + off, none⟩) := by
  cases hx with
  | ptr _ _ loc hk => exact ⟨loc, hk, rfl⟩
theorem aLoad_sim (R : Rel P m h w) {t : TypeId} {x x' v : Value} (hx : VR m x x') (ha : aLoad P h t x = some v) :
    ∃ v', (Instr.loadAt t x').run P w = .ok v' w ∧ VR m v v' := by
  unfold aLoad at ha
  split at ha
  · rename_i k off
    obtain ⟨loc, hk, rfl⟩ := ptr_inv hx
    have agg : ∀ d, P.underlying t = some d → ((∃ fs, d = .struct fs) ∨ (∃ n e, d = .array n e)) →
        (match P.info? t with | some i => (match rdN h k off i.size with | some l => some (Value.agg l.toArray) | none => none) | none => none) = some v →
        ∃ v', (Instr.loadAt t (.pointer (some ⟨loc.blk, loc.dl + off, none⟩))).run P w = .ok v' w ∧ VR m v v' := by
      intro d hu hd ha
      split at ha
      · rename_i i hi
        split at ha
        · rename_i l hl
          injection ha with ha; subst ha
          obtain ⟨l', hv, hlen, hc, _⟩ := rdN_sim R hk hl
          have := run_loadCells_list (P := P) w _ l' hc
          rw [← hv.1, hlen] at this
          exact ⟨.agg l'.toArray, by simp [Instr.loadAt, Instr.sureAddr, loadVar, run_isAgg_true hu hd, run_sizeOf' hi, this], VR.agg' hv⟩
        · cases ha
      · cases ha
    split at ha
    · rename_i fs hu; exact agg _ hu (.inl ⟨_, rfl⟩) ha
    · rename_i n e hu; exact agg _ hu (.inr ⟨_, _, rfl⟩) ha
    · rename_i d hn1 hn2 hu
      obtain ⟨v', hc, hv⟩ := rd1_sim R hk ha
      exact ⟨v', by simp [Instr.loadAt, Instr.sureAddr, loadVar, run_isAgg_false hu hn1 hn2, hc], hv⟩
    · cases ha
  · cases ha
theorem aIntBin_sim {op : BinOp} {k : IntKind} {a b : Int} {v : Value} (hne1 : op ≠ .shl) (hne2 : op ≠ .shr) (ha : aIntBin op k a b = some v) (t : TypeId) (w : World) :
    (binOp op t (.int k a) (.int k b)).run P w = .ok v w ∧ VR m v v := by
  unfold aIntBin at ha
  split at ha
  case h_4 => split at ha; · cases ha
              · rename_i hb; injection ha with ha; subst ha; exact ⟨by simp [binOp, Op.intDiv, hb], .int _ _⟩
  case h_5 => split at ha; · cases ha
              · rename_i hb; injection ha with ha; subst ha; exact ⟨by simp [binOp, Op.intDiv, hb], .int _ _⟩
  case h_16 => cases ha
  all_goals (injection ha with ha; subst ha; exact ⟨by simp [binOp, Op.intArith, Op.intBits, Op.intCmp], by first | exact .int _ _ | exact .bool _⟩)
theorem aStrBin_sim {op : BinOp} {a b : ByteArray} {v : Value} (ha : aStrBin op a b = some v) (t : TypeId) (w : World) :
    (binOp op t (.string a) (.string b)).run P w = .ok v w ∧ VR m v v := by
  unfold aStrBin at ha
  split at ha
  · split at ha
    · cases ha
    · rename_i hb; injection ha with ha; subst ha
      exact ⟨by simp only [binOp, Op.stringOp]; rw [if_neg hb]; rfl, .string _⟩
  · injection ha with ha; subst ha; exact ⟨by simp [binOp, Op.stringOp, Lib.toList_data], .bool _⟩
  · injection ha with ha; subst ha; exact ⟨by simp [binOp, Op.stringOp, Lib.toList_data], .bool _⟩
  · injection ha with ha; subst ha; exact ⟨by simp [binOp, Op.stringOp, Lib.toList_data], .bool _⟩
  · cases ha
theorem aPart_sim {t : TypeId} {cs cs' : Array Value} {off : Nat} {v : Value} (hv : VRs m cs.toList cs'.toList) (ha : aPart P t cs off = some v) (w : World) :
    ∃ v', (part t cs' off).run P w = .ok v' w ∧ VR m v v' := by
  unfold aPart at ha
  have agg : ∀ d, P.underlying t = some d → ((∃ fs, d = .struct fs) ∨ (∃ n e, d = .array n e)) →
      (match P.info? t with | some i => some (Value.agg (cs.extract off (off + i.size))) | none => none) = some v → ∃ v', (part t cs' off).run P w = .ok v' w ∧ VR m v v' := by
    intro d hu hd ha
    split at ha
    · rename_i i hi
      injection ha with ha; subst ha
      refine ⟨.agg (cs'.extract off (off + i.size)), by simp [part, run_isAgg_true hu hd, run_sizeOf' hi], ?_⟩
      have h1 := (hv.take (off + i.size)).drop off
      refine .agg _ _ (by have := h1.1; simp at this ⊢; omega) (fun j a b ha hb => h1.2 j a b ?_ ?_)
      · rw [← Array.getElem?_toList] at ha; simpa [List.extract_eq_take_drop, List.drop_take] using ha
      · rw [← Array.getElem?_toList] at hb; simpa [List.extract_eq_take_drop, List.drop_take] using hb
    · cases ha
  split at ha
  · rename_i fs hu; exact agg _ hu (.inl ⟨_, rfl⟩) ha
  · rename_i n e hu; exact agg _ hu (.inr ⟨_, _, rfl⟩) ha
  · rename_i d hn1 hn2 hu
    rw [← Array.getElem?_toList] at ha
    obtain ⟨v', a, b⟩ := hv.get ha
    rw [Array.getElem?_toList] at a
    exact ⟨v', by simp [part, run_isAgg_false hu hn1 hn2, a], b⟩
  · cases ha
theorem eqFs_sim {g : TypeId → Value → Value → Option Bool} {d : Nat} (hg : ∀ (t : TypeId) (x y x' y' : Value) (b : Bool), g t x y = some b → VR m x x' → VR m y y' → ∀ w : World, (Op.equalIn d t x' y').run P w = .ok b w) {xs ys xs' ys' : Array Value} (hx : VRs m xs.toList xs'.toList) (hy : VRs m ys.toList ys'.toList) :
    ∀ (fs : List Field) (b : Bool), eqFs g P xs ys fs = some b → ∀ w : World, (Op.eqFields d xs' ys' fs).run P w = .ok b w
  | [], b, h, w => by simp only [eqFs] at h; injection h with h; subst h; rfl
  | f :: fs, b, h, w => by
    have ih := eqFs_sim hg hx hy fs
    simp only [eqFs] at h
    simp only [Op.eqFields]
    split at h
    · rename_i hn
      rw [if_pos hn]
      split at h
      · rename_i a c ha hc
        obtain ⟨a', e1, r1⟩ := aPart_sim hx ha w
        obtain ⟨c', e2, r2⟩ := aPart_sim hy hc w
        simp only [Sem.run_bind, e1, Result.andThen_ok, e2]
        split at h
        · rename_i hh
          simp only [hg _ _ _ _ _ _ hh r1 r2 w, Result.andThen_ok, Bool.not_true, Bool.false_eq_true, if_false]
          exact ih b h w
        · rename_i hh
          injection h with h; subst h
          simp only [hg _ _ _ _ _ _ hh r1 r2 w, Result.andThen_ok, Bool.not_false, if_true]
          rfl
        · cases h
      · cases h
    · rename_i hn
      rw [if_neg hn]
      exact ih b h w
set_option maxHeartbeats 2000000 in
theorem aEqF_sim : ∀ (d D : Nat) (t : TypeId) (x y x' y' : Value) (b : Bool), d ≤ D → aEqF d P t x y = some b → VR m x x' → VR m y y' → ∀ w : World, (Op.equalIn D t x' y').run P w = .ok b w := by
  intro d
  induction d with
  | zero => intro D t x y x' y' b _ ha; simp [aEqF] at ha
  | succ d ih =>
    intro D t x y x' y' b hD ha hx hy w
    obtain ⟨D, rfl⟩ : ∃ D', D = D' + 1 := ⟨D - 1, by omega⟩
    unfold aEqF at ha
    split at ha
    · rename_i hu; injection ha with ha; subst ha; cases hx; cases hy; (simp only [Op.equalIn, Sem.run_bind, run_underlying hu, Result.andThen_ok]; rfl)
    · rename_i hu; split at ha
      · rename_i hk; injection ha with ha; subst ha; cases hx; cases hy; (simp only [Op.equalIn, Sem.run_bind, run_underlying hu, Result.andThen_ok]; simp [hk])
      · cases ha
    · rename_i hu; injection ha with ha; subst ha; cases hx; cases hy; (simp only [Op.equalIn, Sem.run_bind, run_underlying hu, Result.andThen_ok]; rfl)
    · rename_i hu; injection ha with ha; subst ha; cases hx; cases hy <;> (simp only [Op.equalIn, Sem.run_bind, run_underlying hu, Result.andThen_ok]; rfl)
    · rename_i hu; injection ha with ha; subst ha; cases hx; cases hy; (simp only [Op.equalIn, Sem.run_bind, run_underlying hu, Result.andThen_ok]; rfl)
    · rename_i hu; injection ha with ha; subst ha; cases hx; cases hy; (simp only [Op.equalIn, Sem.run_bind, run_underlying hu, Result.andThen_ok]; rfl)
    · rename_i hu; injection ha with ha; subst ha; cases hx; cases hy; (simp only [Op.equalIn, Sem.run_bind, run_underlying hu, Result.andThen_ok]; rfl)
    · rename_i hu; injection ha with ha; subst ha; cases hx; cases hy; (simp only [Op.equalIn, Sem.run_bind, run_underlying hu, Result.andThen_ok]; rfl)
    · rename_i hu
      split at ha
      · rename_i hne; injection ha with ha; subst ha; cases hx; cases hy; (simp only [Op.equalIn, Sem.run_bind, run_underlying hu, Result.andThen_ok]; simp [hne])
      · rename_i hne
        split at ha
        · rename_i i hi
          split at ha
          · rename_i hc
            cases hx with
            | iface _ _ vx' hx =>
            cases hy with
            | iface _ _ vy' hy =>
            simp only [Op.equalIn, Sem.run_bind, run_underlying hu, Result.andThen_ok]; simp [hne, run_typeInfo w hi, hc, ih D _ _ _ _ _ b (by omega) ha hx hy w]
          · cases ha
        · cases ha
    · rename_i hu; injection ha with ha; subst ha; cases hx; cases hy <;> (simp only [Op.equalIn, Sem.run_bind, run_underlying hu, Result.andThen_ok]; rfl)
    · rename_i hu; injection ha with ha; subst ha; cases hx <;> cases hy <;> (simp only [Op.equalIn, Sem.run_bind, run_underlying hu, Result.andThen_ok]; rfl)
    · rename_i hu; injection ha with ha; subst ha; cases hx; cases hy <;> (simp only [Op.equalIn, Sem.run_bind, run_underlying hu, Result.andThen_ok]; rfl)
    · rename_i hu; injection ha with ha; subst ha; cases hx; cases hy; (simp only [Op.equalIn, Sem.run_bind, run_underlying hu, Result.andThen_ok]; rfl)
    · rename_i hu; injection ha with ha; subst ha; cases hx; cases hy; (simp only [Op.equalIn, Sem.run_bind, run_underlying hu, Result.andThen_ok]; rfl)
    · rename_i hu; injection ha with ha; subst ha; cases hx; cases hy; (simp only [Op.equalIn, Sem.run_bind, run_underlying hu, Result.andThen_ok]; rfl)
    · rename_i hu; injection ha with ha; subst ha; cases hx; cases hy; (simp only [Op.equalIn, Sem.run_bind, run_underlying hu, Result.andThen_ok]; rfl)
    · rename_i fs xs ys hu
      split at ha
      · cases ha
      · rename_i hst
        cases hx with
        | agg _ cx hc1 hs1 =>
        cases hy with
        | agg _ cy hc2 hs2 =>
        have hfs : P.fieldsOf t = fs := by simp only [Program.fieldsOf, hu]
        rw [run_equalIn_struct w D t cx cy (by rw [hu, hfs]) (by simpa using hst), hfs]
        exact eqFs_sim (fun t x y x' y' b h1 h2 h3 w => ih D t x y x' y' b (by omega) h1 h2 h3 w) ⟨by simpa using hc1, fun i v v' a b => hs1 i v v' (by simpa using a) (by simpa using b)⟩ ⟨by simpa using hc2, fun i v v' a b => hs2 i v v' (by simpa using a) (by simpa using b)⟩ _ _ ha w
    · cases ha
theorem aUn_sim {op : UnOp} {x x' v : Value} (hx : VR m x x') (ha : aUn op x = some v) (w : World) : (Op.unary op x').run P w = .ok v w ∧ VR m v v := by
  unfold aUn at ha
  split at ha
  · injection ha with ha; subst ha; cases hx; exact ⟨by simp [Op.unary, Op.intArith], .int _ _⟩
  · injection ha with ha; subst ha; cases hx; exact ⟨by simp [Op.unary, Op.intBits], .int _ _⟩
  · injection ha with ha; subst ha; cases hx; exact ⟨by simp [Op.unary], .bool _⟩
  · cases ha
end
end Go.AM

namespace Go.AM
open Go
section
variable {P : Program} {m : Mp} {h : Heap} {w : World}
theorem eqGuard_other {op : BinOp} {t : TypeId} {xo yo : Operand} {x y : Value} (h1 : ¬ (x = .nilIface ∧ y = .nilIface)) (h2 : ∀ cs, x ≠ .agg cs) (w : World) :
    (eqGuard op t xo yo x y).run P w = .ok () w := by
  unfold eqGuard
  cases op <;> first
    | rfl
    | (cases x <;> first | exact absurd rfl (h2 _) | rfl | (cases y <;> first | rfl | exact absurd ⟨rfl, rfl⟩ h1))
theorem eqGuard_const {op : BinOp} {t : TypeId} {xo yo : Operand} (hc : (isConstB xo || isConstB yo) = true) (w : World) :
    (eqGuard op t xo yo .nilIface .nilIface).run P w = .ok () w := by
  unfold eqGuard
  cases op <;> first
    | rfl
    | (cases xo <;> first | rfl | (cases yo <;> first | rfl | (simp [isConstB] at hc)))
theorem VR.ne_agg {x x' : Value} (hx : VR m x x') (h : ∀ cs, x ≠ .agg cs) : ∀ cs, x' ≠ .agg cs := by
  intro cs e; subst e; cases hx; exact h _ rfl
theorem VR.ne_nilIface {x x' : Value} (hx : VR m x x') (h : x' = .nilIface) : x = .nilIface := by
  subst h; cases hx; rfl
theorem binOp_eql {t : TypeId} {x y : Value} {b : Bool} (he : ∀ w : World, (Op.equalIn Op.maxDepth t x y).run P w = .ok b w)
    (h1 : ∀ k n k' n', ¬ (x = .int k n ∧ y = .int k' n')) (h2 : ∀ s s', ¬ (x = .string s ∧ y = .string s')) (h3 : ∀ k n k' n', ¬ (x = .float k n ∧ y = .float k' n'))
    (h4 : ∀ k n l k' n' l', ¬ (x = .complex k n l ∧ y = .complex k' n' l')) (w : World) :
    (binOp .eql t x y).run P w = .ok (.bool b) w ∧ (binOp .neq t x y).run P w = .ok (.bool (!b)) w := by
  have he' : ∀ w : World, (Op.equal t x y).run P w = .ok b w := he
  constructor
  · unfold binOp
    split <;> first | exact absurd ⟨rfl, rfl⟩ (h1 _ _ _ _) | exact absurd ⟨rfl, rfl⟩ (h2 _ _) | exact absurd ⟨rfl, rfl⟩ (h3 _ _ _ _) | exact absurd ⟨rfl, rfl⟩ (h4 _ _ _ _ _ _) | (simp [he']; done) | simp_all
  · unfold binOp
    split <;> first | exact absurd ⟨rfl, rfl⟩ (h1 _ _ _ _) | exact absurd ⟨rfl, rfl⟩ (h2 _ _) | exact absurd ⟨rfl, rfl⟩ (h3 _ _ _ _) | exact absurd ⟨rfl, rfl⟩ (h4 _ _ _ _ _ _) | (simp [he']; done) | simp_all
theorem aEqF_noFloat {d : Nat} {t : TypeId} {x y : Value} {b : Bool} (ha : aEqF d P t x y = some b) :
    (∀ k n k' n', ¬ (x = .float k n ∧ y = .float k' n')) ∧ (∀ k n l k' n' l', ¬ (x = .complex k n l ∧ y = .complex k' n' l')) ∧ (x ≠ .agg #[] → True) := by
  cases d with
  | zero => simp [aEqF] at ha
  | succ d =>
    refine ⟨fun k n k' n' e => ?_, fun k n l k' n' l' e => ?_, fun _ => trivial⟩ <;>
      (obtain ⟨rfl, rfl⟩ := e; unfold aEqF at ha; split at ha <;> simp_all)
theorem aBin_sim {op : BinOp} {t : TypeId} {xo yo : Operand} {x y x' y' v : Value} (hx : VR m x x') (hy : VR m y y') (ha : aBin P op t xo yo x y = some v) (w : World) :
    (eqGuard op t xo yo x' y').run P w = .ok () w ∧ (binOp op t x' y').run P w = .ok v w ∧ VR m v v := by
  unfold aBin at ha
  split at ha
  · split at ha
    · cases ha
    · rename_i hb; injection ha with ha; subst ha; cases hx; cases hy
      exact ⟨eqGuard_other (by simp) (by simp) w, by simp [binOp, Op.shift, hb], .int _ _⟩
  · split at ha
    · cases ha
    · rename_i hb; injection ha with ha; subst ha; cases hx; cases hy
      exact ⟨eqGuard_other (by simp) (by simp) w, by simp [binOp, Op.shift, hb], .int _ _⟩
  · rename_i op k a k' b h1 h2
    split at ha
    · rename_i hk; subst hk; cases hx; cases hy
      refine ⟨eqGuard_other (by simp) (by simp) w, aIntBin_sim (m := m) ?_ ?_ ha t w⟩
      · rintro rfl; exact h1 rfl
      · rintro rfl; exact h2 rfl
    · cases ha
  · cases hx; cases hy
    exact ⟨eqGuard_other (by simp) (by simp) w, aStrBin_sim ha t w⟩
  · split at ha
    · rename_i hc; cases hx; cases hy
      cases hb : aEqF 8 P t .nilIface .nilIface with
      | none => rw [hb] at ha; cases ha
      | some b =>
        rw [hb] at ha; injection ha with ha; subst ha
        exact ⟨eqGuard_const hc w, (binOp_eql (fun w => aEqF_sim (m := m) 8 _ _ _ _ _ _ b (by decide) hb .nilIface .nilIface w) (by simp) (by simp) (by simp) (by simp) w).1, .bool _⟩
    · cases ha
  · split at ha
    · rename_i hc; cases hx; cases hy
      cases hb : aEqF 8 P t .nilIface .nilIface with
      | none => rw [hb] at ha; cases ha
      | some b =>
        rw [hb] at ha; injection ha with ha; subst ha
        exact ⟨eqGuard_const hc w, (binOp_eql (fun w => aEqF_sim (m := m) 8 _ _ _ _ _ _ b (by decide) hb .nilIface .nilIface w) (by simp) (by simp) (by simp) (by simp) w).2, .bool _⟩
    · cases ha
  · split at ha
    · cases ha
    · rename_i xs ys hgt
      cases hb : aEqF 8 P t (.agg xs) (.agg ys) with
      | none => rw [hb] at ha; cases ha
      | some b =>
        rw [hb] at ha; injection ha with ha; subst ha
        cases hx with
        | agg _ cx hc1 hs1 =>
        cases hy with
        | agg _ cy hc2 hs2 =>
        refine ⟨run_eqGuard_agg w .eql t xo yo cx cy (by simpa using hgt), (binOp_eql (fun w => aEqF_sim (m := m) 8 _ _ _ _ _ _ b (by decide) hb (.agg _ _ hc1 hs1) (.agg _ _ hc2 hs2) w) (by simp) (by simp) (by simp) (by simp) w).1, .bool _⟩
  · split at ha
    · cases ha
    · rename_i xs ys hgt
      cases hb : aEqF 8 P t (.agg xs) (.agg ys) with
      | none => rw [hb] at ha; cases ha
      | some b =>
        rw [hb] at ha; injection ha with ha; subst ha
        cases hx with
        | agg _ cx hc1 hs1 =>
        cases hy with
        | agg _ cy hc2 hs2 =>
        refine ⟨run_eqGuard_agg w .neq t xo yo cx cy (by simpa using hgt), (binOp_eql (fun w => aEqF_sim (m := m) 8 _ _ _ _ _ _ b (by decide) hb (.agg _ _ hc1 hs1) (.agg _ _ hc2 hs2) w) (by simp) (by simp) (by simp) (by simp) w).2, .bool _⟩
  · cases ha
  · rename_i h5 h2 h3 h4 h6
    cases hb : aEqF 8 P t x y with
    | none => rw [hb] at ha; cases ha
    | some b =>
      rw [hb] at ha; injection ha with ha; subst ha
      have hag := hx.ne_agg h5
      obtain ⟨f1, f2, _⟩ := aEqF_noFloat hb
      refine ⟨eqGuard_other (fun e => h4 (hx.ne_nilIface e.1) (hy.ne_nilIface e.2)) hag w, (binOp_eql (fun w => aEqF_sim 8 _ _ _ _ _ _ b (by decide) hb hx hy w) ?_ ?_ ?_ ?_ w).1, .bool _⟩
      · rintro k n k' n' ⟨rfl, rfl⟩; cases hx; cases hy; exact h2 _ _ _ _ rfl rfl
      · rintro s s' ⟨rfl, rfl⟩; cases hx; cases hy; exact h3 _ _ rfl rfl
      · rintro k n k' n' ⟨rfl, rfl⟩; cases hx; cases hy; exact f1 _ _ _ _ ⟨rfl, rfl⟩
      · rintro k n l k' n' l' ⟨rfl, rfl⟩; cases hx; cases hy; exact f2 _ _ _ _ _ _ ⟨rfl, rfl⟩
  · rename_i h5 h2 h3 h4 h6
    cases hb : aEqF 8 P t x y with
    | none => rw [hb] at ha; cases ha
    | some b =>
      rw [hb] at ha; injection ha with ha; subst ha
      have hag := hx.ne_agg h5
      obtain ⟨f1, f2, _⟩ := aEqF_noFloat hb
      refine ⟨eqGuard_other (fun e => h4 (hx.ne_nilIface e.1) (hy.ne_nilIface e.2)) hag w, (binOp_eql (fun w => aEqF_sim 8 _ _ _ _ _ _ b (by decide) hb hx hy w) ?_ ?_ ?_ ?_ w).2, .bool _⟩
      · rintro k n k' n' ⟨rfl, rfl⟩; cases hx; cases hy; exact h2 _ _ _ _ rfl rfl
      · rintro s s' ⟨rfl, rfl⟩; cases hx; cases hy; exact h3 _ _ rfl rfl
      · rintro k n k' n' ⟨rfl, rfl⟩; cases hx; cases hy; exact f1 _ _ _ _ ⟨rfl, rfl⟩
      · rintro k n l k' n' l' ⟨rfl, rfl⟩; cases hx; cases hy; exact f2 _ _ _ _ _ _ ⟨rfl, rfl⟩
  · cases ha
theorem aBound_sim {x x' : Value} {y n : Nat} (hx : VR m x x') (ha : aBound x y = some n) (code : BoundsCode) (w : World) : (Instr.sliceBound x' y code).run P w = .ok n w ∧ n ≤ y := by
  unfold aBound at ha
  split at ha
  · split at ha
    · rename_i hi; injection ha with ha; subst ha; cases hx
      exact ⟨by simp [Instr.sliceBound, asIntOf, hi], by omega⟩
    · cases ha
  · cases ha
def VRo (m : Mp) : Option Value → Option Value → Prop
  | none, none => True
  | some v, some v' => VR m v v'
  | _, _ => False
theorem bounds_sim {isSl : Bool} {len cap mm hh ll : Nat} {lo hi mx lo' hi' mx' : Option Value} (hlo : VRo m lo lo') (hhi : VRo m hi hi') (hmx : VRo m mx mx')
    (h1 : aBoundO mx cap cap = some mm) (h2 : aBoundO hi mm len = some hh) (h3 : aBoundO lo hh 0 = some ll) (hno : mx.isSome = true → hi.isSome = true) (w : World) :
    (Instr.sliceBounds isSl len cap lo' hi' mx').run P w = .ok (ll, hh, mm) w ∧ ll ≤ max hh 0 ∧ mm ≤ cap := by
  have hl : ∀ (c1 : BoundsCode), (match lo' with | some v => Instr.sliceBound v hh c1 | none => pure 0).run P w = .ok ll w ∧ ll ≤ max hh 0 := by
    intro c1
    cases lo with
    | none => cases lo' with
      | none => simp [aBoundO] at h3; subst h3; exact ⟨rfl, by omega⟩
      | some _ => exact hlo.elim
    | some v => cases lo' with
      | none => exact hlo.elim
      | some v' => have := aBound_sim (P := P) hlo h3 c1 w; exact ⟨this.1, by omega⟩
  cases mx with
  | none => cases mx' with
    | some _ => exact hmx.elim
    | none =>
      simp [aBoundO] at h1; subst h1
      cases hi with
      | none => cases hi' with
        | some _ => exact hhi.elim
        | none =>
          simp [aBoundO] at h2; subst h2
          refine ⟨?_, (hl .sliceB).2, Nat.le_refl _⟩
          have := (hl .sliceB).1
          simp only [Instr.sliceBounds, Sem.run_bind, Sem.run_pure, Result.andThen_ok]
          cases lo' with
          | none => simp at this ⊢; exact this
          | some v' => simp at this ⊢; rw [this]; rfl
      | some v => cases hi' with
        | none => exact hhi.elim
        | some v' =>
          have hb := aBound_sim (P := P) hhi h2 (if isSl then BoundsCode.sliceAcap else BoundsCode.sliceAlen) w
          refine ⟨?_, (hl .sliceB).2, Nat.le_refl _⟩
          have := (hl .sliceB).1
          simp only [Instr.sliceBounds, Sem.run_bind, Sem.run_pure, Result.andThen_ok]
          rw [hb.1]
          cases lo' with
          | none => simp at this ⊢; exact this
          | some v' => simp at this ⊢; rw [this]; rfl
  | some v => cases mx' with
    | none => exact hmx.elim
    | some v' =>
      have hm := aBound_sim (P := P) hmx h1 (if isSl then BoundsCode.slice3Acap else BoundsCode.slice3Alen) w
      cases hi with
      | none => simp at hno
      | some u => cases hi' with
        | none => exact hhi.elim
        | some u' =>
          have hb := aBound_sim (P := P) hhi h2 BoundsCode.slice3B w
          refine ⟨?_, (hl .slice3C).2, hm.2⟩
          have := (hl .slice3C).1
          simp only [Instr.sliceBounds, Sem.run_bind, Sem.run_pure, Result.andThen_ok]
          rw [hm.1]
          simp only [Result.andThen_ok]
          rw [hb.1]
          cases lo' with
          | none => simp at this ⊢; exact this
          | some v' => simp at this ⊢; rw [this]; rfl
theorem aFieldAddr_sim {s : TypeId} {x x' v : Value} {f : Nat} (hx : VR m x x') (ha : aFieldAddr P s x f = some v) (w : World) :
    ∃ v', (Instr.fieldAt s x' f).run P w = .ok v' w ∧ VR m v v' := by
  unfold aFieldAddr at ha
  split at ha
  · rename_i fs hu
    split at ha
    · rename_i fd hf
      split at ha
      · rename_i i hi
        split at ha
        · rename_i k off
          obtain ⟨loc, hk, rfl⟩ := ptr_inv hx
          cases hz : Nat.beq i.size 0 with
          | true => rw [hz] at ha; cases ha
          | false =>
            rw [hz] at ha; injection ha with ha; subst ha
            have hne : i.size ≠ 0 := fun e => by rw [e] at hz; cases hz
            refine ⟨.pointer (some ⟨loc.blk, loc.dl + (off + fd.offset), none⟩), ?_, .ptr _ _ _ hk⟩
            simp [Instr.fieldAt, run_underlying hu, hf, Instr.sureAddr, fieldPlace, run_sizeOf' hi, hne, add_none, Nat.add_assoc]
        · cases ha
      · cases ha
    · cases ha
  · cases ha
theorem VR.agg_inv {cs : Array Value} {x' : Value} (hx : VR m (.agg cs) x') : ∃ cs', x' = .agg cs' ∧ VRs m cs.toList cs'.toList := by
  cases hx with
  | agg _ c' hc hs => exact ⟨c', rfl, by simpa using hc, fun i v v' a b => hs i v v' (by simpa using a) (by simpa using b)⟩
theorem VR.tuple_inv {cs : Array Value} {x' : Value} (hx : VR m (.tuple cs) x') : ∃ cs', x' = .tuple cs' ∧ VRs m cs.toList cs'.toList := by
  cases hx with
  | tuple _ c' hc hs => exact ⟨c', rfl, by simpa using hc, fun i v v' a b => hs i v v' (by simpa using a) (by simpa using b)⟩
theorem aField_sim {t : TypeId} {x x' v : Value} {f : Nat} (hx : VR m x x') (ha : aField P t x f = some v) (w : World) :
    ∃ v', (Instr.field t x' f).run P w = .ok v' w ∧ VR m v v' := by
  unfold aField at ha
  split at ha
  · rename_i fs hu
    split at ha
    · rename_i fd hf
      split at ha
      · obtain ⟨cs', rfl, hv⟩ := hx.agg_inv
        obtain ⟨v', a, b⟩ := aPart_sim hv ha w
        exact ⟨v', by simp [Instr.field, run_underlying hu, hf, asAgg, a], b⟩
      · cases ha
    · cases ha
  · cases ha
theorem sl_inv {k off len cap : Nat} {x' : Value} (hx : VR m (.slice (some ⟨k, off, none⟩) len cap) x') :
    (∃ loc cap', m k = some loc ∧ x' = .slice (some ⟨loc.blk, loc.dl + off, none⟩) len cap' ∧ ((isOpn cap = false ∧ cap' = cap) ∨ (isOpn cap = true ∧ len ≤ cap' ∧ loc.dl + off + cap' * loc.esz = loc.csz ∧ cap' ≤ maxLen))) ∨
    (len = 0 ∧ isOpn cap = true ∧ (.slice (some ⟨k, off, none⟩) len cap) = slE ∧ ∃ a c, x' = .slice (some a) 0 c) := by
  cases hx with
  | sl _ _ _ _ loc hk hc => exact .inl ⟨loc, cap, hk, rfl, .inl ⟨hc, rfl⟩⟩
  | slOpn _ _ _ _ cap' loc hk hc hl hz hm => exact .inl ⟨loc, cap', hk, rfl, .inr ⟨hc, hl, hz, hm⟩⟩
  | slEmp a c => exact .inr ⟨rfl, by decide, rfl, a, c, rfl⟩
theorem aIndexAddr_sim {t : TypeId} {x ix x' ix' v : Value} (hx : VR m x x') (hi : VR m ix ix') (ha : aIndexAddr P t x ix = some v) (w : World) :
    ∃ v', (Instr.indexAt t x' ix').run P w = .ok v' w ∧ VR m v v' := by
  unfold aIndexAddr at ha
  split at ha
  · rename_i ik i
    cases hi
    split at ha
    · rename_i len e k off hu
      obtain ⟨loc, hk, rfl⟩ := ptr_inv hx
      split at ha
      · rename_i hb
        split at ha
        · rename_i inf hinf
          injection ha with ha; subst ha
          refine ⟨.pointer (some ⟨loc.blk, loc.dl + (off + i.toNat * inf.size), none⟩), ?_, .ptr _ _ _ hk⟩
          simp [Instr.indexAt, asIntOf, run_underlying hu, Instr.sureAddr, hb, run_sizeOf' hinf, add_none, Nat.add_assoc]
        · cases ha
      · cases ha
    · rename_i e k off len cap hu
      split at ha
      · rename_i hb
        split at ha
        · rename_i inf hinf
          injection ha with ha; subst ha
          rcases sl_inv hx with ⟨loc, cap', hk, rfl, _⟩ | ⟨h0, _⟩
          · refine ⟨.pointer (some ⟨loc.blk, loc.dl + (off + i.toNat * inf.size), none⟩), ?_, .ptr _ _ _ hk⟩
            simp [Instr.indexAt, asIntOf, run_underlying hu, hb, run_sizeOf' hinf, add_none, Nat.add_assoc]
          · omega
        · cases ha
      · cases ha
    · cases ha
  · cases ha
theorem aIndex_sim {t : TypeId} {x ix x' ix' v : Value} (hx : VR m x x') (hi : VR m ix ix') (ha : aIndex P t x ix = some v) (w : World) :
    ∃ v', (Instr.index t x' ix').run P w = .ok v' w ∧ VR m v v' := by
  unfold aIndex at ha
  split at ha
  · rename_i ik i
    cases hi
    split at ha
    · rename_i len e cs hu
      obtain ⟨cs', rfl, hv⟩ := hx.agg_inv
      split at ha
      · rename_i hb
        split at ha
        · rename_i inf hinf
          obtain ⟨v', a, b⟩ := aPart_sim hv ha w
          exact ⟨v', by simp [Instr.index, asIntOf, run_underlying hu, hb, run_sizeOf' hinf, a], b⟩
        · cases ha
      · cases ha
    · rename_i s hu
      cases hx
      split at ha
      · rename_i h0
        split at ha
        · rename_i b hb
          injection ha with ha; subst ha
          have hb' : s[i.toNat]? = some b := by
            have hlt : i.toNat < s.data.toList.length := by
              rcases Nat.lt_or_ge i.toNat s.data.toList.length with h | h
              · exact h
              · rw [List.getElem?_eq_none h] at hb; cases hb
            rw [List.getElem?_eq_getElem hlt] at hb
            injection hb with hb
            have hlt2 : i.toNat < s.size := by simpa using hlt
            rw [getElem?_pos s i.toNat hlt2, ← hb]
            rfl
          exact ⟨_, by simp [Instr.index, asIntOf, run_underlying hu, h0, hb'], .int _ _⟩
        · cases ha
      · cases ha
    · cases ha
  · cases ha
theorem aExtract_sim {x x' v : Value} {i : Nat} (hx : VR m x x') (ha : aExtract x i = some v) (w : World) :
    ∃ v', (Instr.extract x' i).run P w = .ok v' w ∧ VR m v v' := by
  unfold aExtract at ha
  split at ha
  · obtain ⟨cs', rfl, hv⟩ := hx.tuple_inv
    rw [← Array.getElem?_toList] at ha
    obtain ⟨v', a, b⟩ := hv.get ha
    rw [Array.getElem?_toList] at a
    exact ⟨v', by simp [Instr.extract, a], b⟩
  · cases ha
end
end Go.AM
