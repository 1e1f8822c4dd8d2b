/- The abstract machine, part 3: operations that neither write nor make memory, each beside the model's. -/
import Derived.Test.YtafnialikielkaaAm2
import Derived.ChangeKeysEq
import Derived.Lib.Strings
namespace Go.AM
open Go

def aLoad (P : Program) (h : Heap) (t : TypeId) (x : Value) : Option Value :=
  match x with
  | .pointer (some ⟨k, off, none⟩) =>
    match P.underlying t with
    | some (.struct _) | some (.array _ _) => match P.info? t with
      | some i => match rdN h k off i.size with
        | some l => some (.agg l.toArray)
        | none => none
      | none => none
    | some _ => rd1 h k off
    | none => none
  | _ => none

def aIntBin (op : BinOp) (k : IntKind) (a b : Int) : Option Value :=
  match op with
  | .add => some (.int k (k.wrap (a + b)))
  | .sub => some (.int k (k.wrap (a - b)))
  | .mul => some (.int k (k.wrap (a * b)))
  | .quo => if b = 0 then none else some (.int k (k.wrap (a.tdiv b)))
  | .rem => if b = 0 then none else some (.int k (a.tmod b))
  | .and => some (.int k (k.wrap (BitVec.ofInt k.bits a &&& BitVec.ofInt k.bits b).toNat))
  | .or => some (.int k (k.wrap (BitVec.ofInt k.bits a ||| BitVec.ofInt k.bits b).toNat))
  | .xor => some (.int k (k.wrap (BitVec.ofInt k.bits a ^^^ BitVec.ofInt k.bits b).toNat))
  | .andNot => some (.int k (k.wrap (BitVec.ofInt k.bits a &&& ~~~ BitVec.ofInt k.bits b).toNat))
  | .eql => some (.bool (a == b))
  | .neq => some (.bool (a != b))
  | .lss => some (.bool (decide (a < b)))
  | .leq => some (.bool (decide (a ≤ b)))
  | .gtr => some (.bool (decide (a > b)))
  | .geq => some (.bool (decide (a ≥ b)))
  | _ => none

def aStrBin (op : BinOp) (x y : ByteArray) : Option Value :=
  match op with
  | .add => if ((x.size + y.size : Nat) : Int) > IntKind.i64.max then none else some (.string (x ++ y))
  | .eql => some (.bool (x.data.toList == y.data.toList))
  | .neq => some (.bool (!(x.data.toList == y.data.toList)))
  | .lss => some (.bool (Op.bytesLess x.data.toList y.data.toList))
  | _ => none

def aEqF : Nat → Program → TypeId → Value → Value → Option Bool
  | 0, _, _, _, _ => none
  | d + 1, P, t, x, y =>
    match P.underlying t, x, y with
    | some .bool, .bool a, .bool b => some (a == b)
    | some (.int _), .int k a, .int k' b => if k = k' then some (a == b) else none
    | some .string, .string a, .string b => some (a == b)
    | some (.pointer _), .pointer none, .pointer b => some b.isNone
    | some (.pointer _), .pointer (some _), .pointer none => some false
    | some (.interface _), .nilIface, .nilIface => some true
    | some (.interface _), .nilIface, .iface _ _ => some false
    | some (.interface _), .iface _ _, .nilIface => some false
    | some (.interface _), .iface tx vx, .iface ty vy =>
      if tx ≠ ty then some false else
      match P.info? tx with
      | some i => if i.comparable then aEqF d P tx vx vy else none
      | none => none
    | some (.slice _), .slice none _ _, .slice b _ _ => some b.isNone
    | some (.slice _), .slice (some _) _ _, .slice none _ _ => some false
    | some (.map _ _), .map none, .map b => some b.isNone
    | some (.map _ _), .map (some _), .map none => some false
    | some (.func _ _ _), .nilFunc, .nilFunc => some true
    | some (.func _ _ _), .nilFunc, .func _ _ _ => some false
    | some (.func _ _ _), .func _ _ _, .nilFunc => some false
    | _, _, _ => none

def isConstB : Operand → Bool
  | .const _ => true
  | _ => false

def aBin (P : Program) (op : BinOp) (t : TypeId) (xo yo : Operand) (x y : Value) : Option Value :=
  match op, x, y with
  | .shl, .int k a, .int _ b => if b < 0 then none else some (.int k (k.wrap (a * 2 ^ (min b.toNat k.bits))))
  | .shr, .int k a, .int _ b => if b < 0 then none else some (.int k (a.fdiv (2 ^ (min b.toNat k.bits))))
  | op, .int k a, .int k' b => if k = k' then aIntBin op k a b else none
  | op, .string a, .string b => aStrBin op a b
  | .eql, .nilIface, .nilIface => if isConstB xo || isConstB yo then (aEqF 8 P t .nilIface .nilIface).map .bool else none
  | .neq, .nilIface, .nilIface => if isConstB xo || isConstB yo then (aEqF 8 P t .nilIface .nilIface).map fun b => .bool (!b) else none
  | _, .agg _, _ => none
  | .eql, x, y => (aEqF 8 P t x y).map .bool
  | .neq, x, y => (aEqF 8 P t x y).map fun b => .bool (!b)
  | _, _, _ => none

def aUn (op : UnOp) (x : Value) : Option Value :=
  match op, x with
  | .neg, .int k n => some (.int k (k.wrap (0 - n)))
  | .xor, .int k n => some (.int k (k.wrap (BitVec.ofInt k.bits (if k.signed then -1 else k.max) ^^^ BitVec.ofInt k.bits n).toNat))
  | .not, .bool b => some (.bool (!b))
  | _, _ => none

def aBound (x : Value) (y : Nat) : Option Nat :=
  match x with
  | .int _ i => if 0 ≤ i ∧ i ≤ y then some i.toNat else none
  | _ => none

def aBoundO (x : Option Value) (y d : Nat) : Option Nat :=
  match x with
  | some v => aBound v y
  | none => some d

def aSlice (P : Program) (hp : Heap) (t : TypeId) (x : Value) (lo hi mx : Option Value) : Option Value :=
  match P.underlying t, x with
  | some .string, .string s =>
    match mx with
    | some _ => none
    | none => match aBoundO hi s.size s.size with
      | some h => match aBoundO lo h 0 with
        | some l => some (.string (s.extract l h))
        | none => none
      | none => none
  | some (.slice e), .slice base len cap =>
    match P.info? e with
    | some i =>
      bif isOpn cap then
        match mx with
        | some _ => none
        | none => match aBoundO hi len len with
          | some h => match aBoundO lo h 0 with
            | some l => match base with
              | some ⟨k, off, none⟩ => bif Nat.beq l 0 then some (.slice base h cap) else bif Nat.blt l len then (match hp.get k with | some (.cells _ el _) => bif Nat.beq el e then some (.slice (some ⟨k, off + l * i.size, none⟩) (h - l) opnCap) else none | _ => none) else some slE
              | _ => none
            | none => none
          | none => none
      else
        match aBoundO mx cap cap with
        | some m => match aBoundO hi m len with
          | some h => match aBoundO lo h 0 with
            | some l => match base with
              | some ⟨k, off, none⟩ => some (.slice (some ⟨k, bif Nat.beq m l then off else off + l * i.size, none⟩) (h - l) (m - l))
              | some _ => none
              | none => some (.slice none (h - l) (m - l))
            | none => none
          | none => none
        | none => none
    | none => none
  | some (.array n e), .pointer (some ⟨k, off, none⟩) =>
    match P.info? e with
    | some i =>
      bif isOpn n then none else
      match aBoundO mx n n with
      | some m => match aBoundO hi m n with
        | some h => match aBoundO lo h 0 with
          | some l => some (.slice (some ⟨k, bif Nat.beq m l then off else off + l * i.size, none⟩) (h - l) (m - l))
          | none => none
        | none => none
      | none => none
    | none => none
  | _, _ => none

def aFieldAddr (P : Program) (s : TypeId) (x : Value) (f : Nat) : Option Value :=
  match P.underlying s with
  | some (.struct fs) => match fs[f]? with
    | some fd => match P.info? fd.type with
      | some i => match x with
        | .pointer (some ⟨k, off, none⟩) => bif Nat.beq i.size 0 then none else some (.pointer (some ⟨k, off + fd.offset, none⟩))
        | _ => none
      | none => none
    | none => none
  | _ => none

def aPart (P : Program) (t : TypeId) (cs : Array Value) (off : Nat) : Option Value :=
  match P.underlying t with
  | some (.struct _) | some (.array _ _) => match P.info? t with
    | some i => some (.agg (cs.extract off (off + i.size)))
    | none => none
  | some _ => cs[off]?
  | none => none

def aField (P : Program) (t : TypeId) (x : Value) (f : Nat) : Option Value :=
  match P.underlying t with
  | some (.struct fs) => match fs[f]? with
    | some fd => match x with
      | .agg cs => aPart P fd.type cs fd.offset
      | _ => none
    | none => none
  | _ => none

def aIndexAddr (P : Program) (t : TypeId) (x ix : Value) : Option Value :=
  match ix with
  | .int _ i =>
    match P.underlying t, x with
    | some (.array len e), .pointer (some ⟨k, off, none⟩) =>
      if 0 ≤ i ∧ i < len then match P.info? e with
        | some inf => some (.pointer (some ⟨k, off + i.toNat * inf.size, none⟩))
        | none => none
      else none
    | some (.slice e), .slice (some ⟨k, off, none⟩) len _ =>
      if 0 ≤ i ∧ i < len then match P.info? e with
        | some inf => some (.pointer (some ⟨k, off + i.toNat * inf.size, none⟩))
        | none => none
      else none
    | _, _ => none
  | _ => none

def aIndex (P : Program) (t : TypeId) (x ix : Value) : Option Value :=
  match ix with
  | .int _ i =>
    match P.underlying t, x with
    | some (.array len e), .agg cs =>
      if 0 ≤ i ∧ i < len then match P.info? e with
        | some inf => aPart P e cs (i.toNat * inf.size)
        | none => none
      else none
    | some .string, .string s => if 0 ≤ i then (match s.data.toList[i.toNat]? with | some b => some (.int .u8 b.toNat) | none => none) else none
    | _, _ => none
  | _ => none

def aExtract (x : Value) (i : Nat) : Option Value :=
  match x with
  | .tuple vs => vs[i]?
  | _ => none

section
variable {P : Program} {m : Mp} {h : Heap} {w : World}

theorem run_sizeOf' {t : TypeId} {i : TypeInfo} (hi : P.info? t = some i) (w : World) : (sizeOf t).run P w = .ok i.size w := by
  simp [sizeOf, run_typeInfo w hi]

theorem run_isAgg_true {t : TypeId} {d : TypeDesc} (hu : P.underlying t = some d) (hd : (∃ fs, d = .struct fs) ∨ (∃ n e, d = .array n e)) (w : World) : (isAgg t).run P w = .ok true w := by
  rcases hd with ⟨fs, rfl⟩ | ⟨n, e, rfl⟩ <;> simp [isAgg, run_underlying hu]

theorem run_isAgg_false {t : TypeId} {d : TypeDesc} (hu : P.underlying t = some d) (h1 : ∀ fs, d ≠ .struct fs) (h2 : ∀ n e, d ≠ .array n e) (w : World) : (isAgg t).run P w = .ok false w := by
  cases d <;> simp_all [isAgg, run_underlying hu]

theorem ptr_inv {k off : Nat} {x' : Value} (hx : VR m (.pointer (some ⟨k, off, none⟩)) x') : ∃ loc, m k = some loc ∧ x' = .pointer (some ⟨loc.blk, loc.dl + off, none⟩) := by
  cases hx with
  | ptr _ _ loc hk => exact ⟨loc, hk, rfl⟩

theorem aLoad_sim (R : Rel P m h w) {t : TypeId} {x x' v : Value} (hx : VR m x x') (ha : aLoad P h t x = some v) :
    ∃ v', (Instr.loadAt t x').run P w = .ok v' w ∧ VR m v v' := by
  unfold aLoad at ha
  split at ha
  · rename_i k off
    obtain ⟨loc, hk, rfl⟩ := ptr_inv hx
    have agg : ∀ d, P.underlying t = some d → ((∃ fs, d = .struct fs) ∨ (∃ n e, d = .array n e)) →
        (match P.info? t with | some i => (match rdN h k off i.size with | some l => some (Value.agg l.toArray) | none => none) | none => none) = some v →
        ∃ v', (Instr.loadAt t (.pointer (some ⟨loc.blk, loc.dl + off, none⟩))).run P w = .ok v' w ∧ VR m v v' := by
      intro d hu hd ha
      split at ha
      · rename_i i hi
        split at ha
        · rename_i l hl
          injection ha with ha; subst ha
          obtain ⟨l', hv, hlen, hc, _⟩ := rdN_sim R hk hl
          have := run_loadCells_list (P := P) w _ l' hc
          rw [← hv.1, hlen] at this
          exact ⟨.agg l'.toArray, by simp [Instr.loadAt, Instr.sureAddr, loadVar, run_isAgg_true hu hd, run_sizeOf' hi, this], VR.agg' hv⟩
        · cases ha
      · cases ha
    split at ha
    · rename_i fs hu; exact agg _ hu (.inl ⟨_, rfl⟩) ha
    · rename_i n e hu; exact agg _ hu (.inr ⟨_, _, rfl⟩) ha
    · rename_i d hn1 hn2 hu
      obtain ⟨v', hc, hv⟩ := rd1_sim R hk ha
      exact ⟨v', by simp [Instr.loadAt, Instr.sureAddr, loadVar, run_isAgg_false hu hn1 hn2, hc], hv⟩
    · cases ha
  · cases ha

theorem aIntBin_sim {op : BinOp} {k : IntKind} {a b : Int} {v : Value} (hne1 : op ≠ .shl) (hne2 : op ≠ .shr) (ha : aIntBin op k a b = some v) (t : TypeId) (w : World) :
    (binOp op t (.int k a) (.int k b)).run P w = .ok v w ∧ VR m v v := by
  unfold aIntBin at ha
  split at ha
  case h_4 => split at ha; · cases ha
              · rename_i hb; injection ha with ha; subst ha; exact ⟨by simp [binOp, Op.intDiv, hb], .int _ _⟩
  case h_5 => split at ha; · cases ha
              · rename_i hb; injection ha with ha; subst ha; exact ⟨by simp [binOp, Op.intDiv, hb], .int _ _⟩
  case h_16 => cases ha
  all_goals (injection ha with ha; subst ha; exact ⟨by simp [binOp, Op.intArith, Op.intBits, Op.intCmp], by first | exact .int _ _ | exact .bool _⟩)

theorem aStrBin_sim {op : BinOp} {a b : ByteArray} {v : Value} (ha : aStrBin op a b = some v) (t : TypeId) (w : World) :
    (binOp op t (.string a) (.string b)).run P w = .ok v w ∧ VR m v v := by
  unfold aStrBin at ha
  split at ha
  · split at ha
    · cases ha
    · rename_i hb; injection ha with ha; subst ha
      exact ⟨by simp only [binOp, Op.stringOp]; rw [if_neg hb]; rfl, .string _⟩
  · injection ha with ha; subst ha; exact ⟨by simp [binOp, Op.stringOp, Lib.toList_data], .bool _⟩
  · injection ha with ha; subst ha; exact ⟨by simp [binOp, Op.stringOp, Lib.toList_data], .bool _⟩
  · injection ha with ha; subst ha; exact ⟨by simp [binOp, Op.stringOp, Lib.toList_data], .bool _⟩
  · cases ha

set_option maxHeartbeats 2000000 in
theorem aEqF_sim : ∀ (d D : Nat) (t : TypeId) (x y x' y' : Value) (b : Bool), d ≤ D → aEqF d P t x y = some b → VR m x x' → VR m y y' → ∀ w : World, (Op.equalIn D t x' y').run P w = .ok b w := by
  intro d
  induction d with
  | zero => intro D t x y x' y' b _ ha; simp [aEqF] at ha
  | succ d ih =>
    intro D t x y x' y' b hD ha hx hy w
    obtain ⟨D, rfl⟩ : ∃ D', D = D' + 1 := ⟨D - 1, by omega⟩
    unfold aEqF at ha
    split at ha
    · rename_i hu; injection ha with ha; subst ha; cases hx; cases hy; (simp only [Op.equalIn, Sem.run_bind, run_underlying hu, Result.andThen_ok]; rfl)
    · rename_i hu; split at ha
      · rename_i hk; injection ha with ha; subst ha; cases hx; cases hy; (simp only [Op.equalIn, Sem.run_bind, run_underlying hu, Result.andThen_ok]; simp [hk])
      · cases ha
    · rename_i hu; injection ha with ha; subst ha; cases hx; cases hy; (simp only [Op.equalIn, Sem.run_bind, run_underlying hu, Result.andThen_ok]; rfl)
    · rename_i hu; injection ha with ha; subst ha; cases hx; cases hy <;> (simp only [Op.equalIn, Sem.run_bind, run_underlying hu, Result.andThen_ok]; rfl)
    · rename_i hu; injection ha with ha; subst ha; cases hx; cases hy; (simp only [Op.equalIn, Sem.run_bind, run_underlying hu, Result.andThen_ok]; rfl)
    · rename_i hu; injection ha with ha; subst ha; cases hx; cases hy; (simp only [Op.equalIn, Sem.run_bind, run_underlying hu, Result.andThen_ok]; rfl)
    · rename_i hu; injection ha with ha; subst ha; cases hx; cases hy; (simp only [Op.equalIn, Sem.run_bind, run_underlying hu, Result.andThen_ok]; rfl)
    · rename_i hu; injection ha with ha; subst ha; cases hx; cases hy; (simp only [Op.equalIn, Sem.run_bind, run_underlying hu, Result.andThen_ok]; rfl)
    · rename_i hu
      split at ha
      · rename_i hne; injection ha with ha; subst ha; cases hx; cases hy; (simp only [Op.equalIn, Sem.run_bind, run_underlying hu, Result.andThen_ok]; simp [hne])
      · rename_i hne
        split at ha
        · rename_i i hi
          split at ha
          · rename_i hc
            cases hx with
            | iface _ _ vx' hx =>
            cases hy with
            | iface _ _ vy' hy =>
            simp only [Op.equalIn, Sem.run_bind, run_underlying hu, Result.andThen_ok]; simp [hne, run_typeInfo w hi, hc, ih D _ _ _ _ _ b (by omega) ha hx hy w]
          · cases ha
        · cases ha
    · rename_i hu; injection ha with ha; subst ha; cases hx; cases hy <;> (simp only [Op.equalIn, Sem.run_bind, run_underlying hu, Result.andThen_ok]; rfl)
    · rename_i hu; injection ha with ha; subst ha; cases hx <;> cases hy <;> (simp only [Op.equalIn, Sem.run_bind, run_underlying hu, Result.andThen_ok]; rfl)
    · rename_i hu; injection ha with ha; subst ha; cases hx; cases hy <;> (simp only [Op.equalIn, Sem.run_bind, run_underlying hu, Result.andThen_ok]; rfl)
    · rename_i hu; injection ha with ha; subst ha; cases hx; cases hy; (simp only [Op.equalIn, Sem.run_bind, run_underlying hu, Result.andThen_ok]; rfl)
    · rename_i hu; injection ha with ha; subst ha; cases hx; cases hy; (simp only [Op.equalIn, Sem.run_bind, run_underlying hu, Result.andThen_ok]; rfl)
    · rename_i hu; injection ha with ha; subst ha; cases hx; cases hy; (simp only [Op.equalIn, Sem.run_bind, run_underlying hu, Result.andThen_ok]; rfl)
    · rename_i hu; injection ha with ha; subst ha; cases hx; cases hy; (simp only [Op.equalIn, Sem.run_bind, run_underlying hu, Result.andThen_ok]; rfl)
    · cases ha

theorem aUn_sim {op : UnOp} {x x' v : Value} (hx : VR m x x') (ha : aUn op x = some v) (w : World) : (Op.unary op x').run P w = .ok v w ∧ VR m v v := by
  unfold aUn at ha
  split at ha
  · injection ha with ha; subst ha; cases hx; exact ⟨by simp [Op.unary, Op.intArith], .int _ _⟩
  · injection ha with ha; subst ha; cases hx; exact ⟨by simp [Op.unary, Op.intBits], .int _ _⟩
  · injection ha with ha; subst ha; cases hx; exact ⟨by simp [Op.unary], .bool _⟩
  · cases ha

end
end Go.AM
