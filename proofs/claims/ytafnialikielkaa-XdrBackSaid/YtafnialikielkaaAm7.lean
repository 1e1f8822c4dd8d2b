/- The abstract machine, part 7: append, copy and the small builtins, each beside the model's. -/
import Derived.Test.YtafnialikielkaaAm6
namespace Go.AM
open Go

def aSrc (P : Program) (h : Heap) (i : TypeInfo) (z : Value) (xT : TypeId) (x : Value) : Option (Nat × List Value) :=
  match P.underlying xT with
  | some (.int _) => match x with
    | .int _ l => if 0 ≤ IntKind.i64.wrap l then bif small (IntKind.i64.wrap l).toNat && small ((IntKind.i64.wrap l).toNat * i.bytes) then some ((IntKind.i64.wrap l).toNat, zeroRow z.cells.toList (IntKind.i64.wrap l).toNat) else none else none
    | _ => none
  | some _ => match x with
    | .slice none _ _ => some (0, [])
    | .slice (some ⟨k, off, none⟩) n _ => bif Nat.beq n 0 then some (0, []) else match rdN h k off (n * i.size) with
      | some l => some (n, l)
      | none => none
    | .string s => bif Nat.beq i.size 1 then some (s.size, s.data.toList.map fun b => .int .u8 b.toNat) else none
    | _ => none
  | none => none

def aAppend (P : Program) (h : Heap) (sT xT : TypeId) (s x : Value) : Option (Value × Heap) :=
  match P.underlying sT, s with
  | some (.slice e), .slice base sLen sCap => match P.info? e with
    | some i => match i.zero with
      | some z => bif Nat.beq z.cells.size i.size && plainB 4 z && !(Nat.beq i.size 0) then
        match aSrc P h i z xT x with
        | some (n, news) =>
          bif Nat.beq n 0 then (bif Nat.ble sLen sCap then some (s, h) else none) else
          bif small (sLen + n) && small ((sLen + n) * i.bytes) then
            match base with
            | none => match aNew h e news with
              | some h' => some (.slice (some ⟨h.next, 0, none⟩) n opnCap, h')
              | none => none
            | some ⟨k, off, none⟩ =>
              bif isOpn sCap then
                bif Nat.beq sCap 2535301200456458802993406410752 then none else
                match h.get k with
                | some (.cells cs el false) => bif Nat.beq el e && Nat.ble (off + sLen * i.size) cs.length && news.all Value.oneCell' then
                    some (.slice (some ⟨h.next, 0, none⟩) (sLen + n) opnCap, (h.set k .dead).push (.cells ((cs.drop off).take (sLen * i.size) ++ news) e false)) else none
                | _ => none
              else bif Nat.ble (sLen + n) sCap then
                match wrN h k (off + sLen * i.size) news with
                | some h' => some (.slice base (sLen + n) sCap, h')
                | none => none
              else match rdN h k off (sLen * i.size) with
                | some old => match aNew h e (old ++ news) with
                  | some h' => some (.slice (some ⟨h.next, 0, none⟩) (sLen + n) opnCap, h')
                  | none => none
                | none => none
            | _ => none
          else none
        | none => none
        else none
      | none => none
    | none => none
  | _, _ => none

def aCopy (P : Program) (h : Heap) (dT : TypeId) (d x : Value) : Option (Value × Heap) :=
  match P.underlying dT, d with
  | some (.slice e), .slice base dLen _ => match P.info? e with
    | some i =>
      match (match x with
        | .slice none _ _ => some (0, [])
        | .slice (some ⟨k, off, none⟩) n _ => bif Nat.beq (Nat.min n dLen) 0 then some (0, []) else match rdN h k off (Nat.min n dLen * i.size) with
          | some l => some (Nat.min n dLen, l)
          | none => none
        | .string s => bif Nat.beq i.size 1 then some (Nat.min s.size dLen, (s.data.toList.take (Nat.min s.size dLen)).map fun b => Value.int .u8 b.toNat) else none
        | _ => none) with
      | some (n, news) =>
        bif Nat.beq n 0 then some (.int .i64 0, h) else
        match base with
        | some ⟨k, off, none⟩ => match wrN h k off news with
          | some h' => some (.int .i64 n, h')
          | none => none
        | _ => none
      | none => none
    | none => none
  | _, _ => none

def aLen (P : Program) (t : TypeId) (x : Value) : Option Value :=
  match P.underlying t, x with
  | some .string, .string s => some (.int .i64 s.size)
  | some (.array n _), _ => some (.int .i64 n)
  | some (.slice _), .slice _ n _ => some (.int .i64 n)
  | some (.map _ _), .map none => some (.int .i64 0)
  | _, _ => none

def aCap (P : Program) (t : TypeId) (x : Value) : Option Value :=
  match P.underlying t, x with
  | some (.slice _), .slice _ _ c => bif isOpn c then none else some (.int .i64 c)
  | _, _ => none

def aMax2 (x y : Value) : Option Value :=
  match x, y with
  | .int k a, .int _ b => some (.int k (if b > a then b else a))
  | _, _ => none
def aMin2 (x y : Value) : Option Value :=
  match x, y with
  | .int k a, .int _ b => some (.int k (if b < a then b else a))
  | _, _ => none
def aFold (f : Value → Value → Option Value) : Value → List Value → Option Value
  | x, [] => some x
  | x, y :: l => match f x y with
    | some v => aFold f v l
    | none => none

section
variable {P : Program} {m : Mp} {h : Heap} {w : World}

/-- How the model comes by what is appended. -/
def Src (P : Program) (w : World) (i : TypeInfo) (z : Value) (xT : TypeId) (x' : Value) (n : Nat) (news' : List Value) : Prop :=
  (∃ d, P.underlying xT = some d ∧ (∀ k, d ≠ .int k) ∧ (∀ w2 : World, (Builtin.lenOf x').run P w2 = .ok n w2) ∧
          ∀ w2 : World, (∀ a, w2.cell? a = w.cell? a) → (Builtin.firstCells i.size n x').run P w2 = .ok news'.toArray w2) ∨
       (∃ k kk l, P.underlying xT = some (.int k) ∧ x' = .int kk l ∧ IntKind.i64.wrap l = n ∧ n ≤ 70368744177664 ∧ n * i.bytes ≤ 70368744177664 ∧ news' = zeroRow z.cells.toList n)

theorem Src.zeros_run {i : TypeInfo} {z : Value} {e : TypeId} {n : Nat} (hi : P.info? e = some i) (hz : i.zero = some z) (hzs : z.cells.size = i.size) (w : World) :
    (if n * i.size = 0 then pure #[] else do pure (Builtin.zeroCells (← zeroValue e).cells n) : Sem (Array Value)).run P w = .ok (zeroRow z.cells.toList n).toArray w := by
  by_cases h0 : n * i.size = 0
  · refine rp h0 ?_
    have : zeroRow z.cells.toList n = [] := List.eq_nil_of_length_eq_zero (by rw [zeroRow_length, Array.length_toList, hzs, h0])
    rw [this]; rfl
  · refine rn h0 (rb (run_zeroValue' hi hz w) ?_)
    rw [← zeroCells_eq]; simp

/-- What is appended: how many, the cells, and how the model comes by them. -/
theorem aSrc_sim (R : Rel P m h w) {i : TypeInfo} {z : Value} {e xT : TypeId} {x x' : Value} {n : Nat} {news : List Value} (hi : P.info? e = some i) (hz : i.zero = some z) (hzs : z.cells.size = i.size) (hp : plainB 4 z = true)
    (hx : VR m x x') (ha : aSrc P h i z xT x = some (n, news)) :
    ∃ news', VRs m news news' ∧ news.length = n * i.size ∧
      Src P w i z xT x' n news' := by
  unfold aSrc at ha
  split at ha
  · rename_i k hu
    split at ha
    · rename_i kk l
      cases hx
      split at ha
      · rename_i h0
        cases hb : small (IntKind.i64.wrap l).toNat && small ((IntKind.i64.wrap l).toNat * i.bytes) with
        | false => rw [hb] at ha; cases ha
        | true =>
          rw [hb] at ha
          simp only [Bool.and_eq_true] at hb
          injection ha with ha; injection ha with e1 e2; subst e1; subst e2
          refine ⟨_, VRs.zeroRow (VR.plain (m := m) 4 z hp).cells _, by rw [zeroRow_length]; simp [hzs], .inr ⟨k, kk, l, hu, rfl, ?_, small_le hb.1, small_le hb.2, rfl⟩⟩
          rw [Int.toNat_of_nonneg h0]
      · cases ha
    · cases ha
  · rename_i d hne hu
    have hd : ∀ k, d ≠ .int k := fun k e => hne k e
    split at ha
    · injection ha with ha; injection ha with e1 e2; subst e1; subst e2
      cases hx
      exact ⟨[], VRs.nil m, by simp, .inl ⟨d, hu, hd, fun w2 => rfl, fun w2 _ => by simp [Builtin.firstCells]⟩⟩
    · rename_i k off n0 cap
      cases hn : Nat.beq n0 0 with
      | true =>
        rw [hn] at ha
        injection ha with ha; injection ha with e1 e2; subst e1; subst e2
        have h0 := Nat.eq_of_beq_eq_true hn
        subst h0
        refine ⟨[], VRs.nil m, by simp, .inl ⟨d, hu, hd, fun w2 => ?_, fun w2 _ => ?_⟩⟩ <;>
          (rcases sl_inv hx with ⟨loc, cap', hk, rfl, _⟩ | ⟨_, _, _, a, c, rfl⟩ <;> simp [Builtin.lenOf, Builtin.firstCells, loadCells, loadCellsFrom])
      | false =>
        rw [hn] at ha
        simp only [cond_false] at ha
        split at ha
        · rename_i l hl
          injection ha with ha; injection ha with e1 e2; subst e1; subst e2
          rcases sl_inv hx with ⟨loc, cap', hk, rfl, _⟩ | ⟨h0, _⟩
          · obtain ⟨l', hv, hlen, hc, _⟩ := rdN_sim R hk hl
            refine ⟨l', hv, hlen, .inl ⟨d, hu, hd, fun w2 => rfl, fun w2 hw => ?_⟩⟩
            exact run_firstCells_some w2 i.size n0 _ n0 cap' l' (by rw [← hv.1, hlen]) (fun j v hj => by rw [hw]; exact hc j v hj)
          · exact absurd h0 (beq_false hn)
        · cases ha
    · rename_i s
      cases hn : Nat.beq i.size 1 with
      | false => rw [hn] at ha; cases ha
      | true =>
        rw [hn] at ha
        injection ha with ha; injection ha with e1 e2; subst e1; subst e2
        have h1 := Nat.eq_of_beq_eq_true hn
        cases hx
        refine ⟨_, ?_, by rw [List.length_map, Array.length_toList, h1, Nat.mul_one]; rfl, .inl ⟨d, hu, hd, fun w2 => rfl, fun w2 _ => Lib.run_firstCells_string w2 i.size s⟩⟩
        rw [show Lib.strCells s = (s.data.toList.map fun b => Int.ofNat b.toNat).map (Value.int .u8) by simp [Lib.strCells]]
        rw [show (s.data.toList.map fun b => Value.int .u8 b.toNat) = (s.data.toList.map fun b => Int.ofNat b.toNat).map (Value.int .u8) by simp]
        refine ⟨rfl, fun j a b ha hb => ?_⟩
        rw [ha] at hb; injection hb with hb; subst hb
        rw [List.getElem?_map] at ha
        cases hq : (s.data.toList.map fun b => Int.ofNat b.toNat)[j]? with
        | none => rw [hq] at ha; cases ha
        | some q => rw [hq] at ha; injection ha with ha; subst ha; exact .int _ _
    · cases ha
  · cases ha

/-- The model's append, where there is room. -/
theorem run_app_room {sT xT ty e : TypeId} {i : TypeInfo} {z : Value} {x' : Value} {n : Nat} {news' : List Value} (ht : P.underlying sT = some (.slice e)) (hi : P.info? e = some i) (hz : i.zero = some z) (hzs : z.cells.size = i.size) (w : World)
    (hs : Src P w i z xT x' n news')
    (base : Option Addr) (sLen sCap : Nat) (hroom : sLen + n ≤ sCap) (w2 : World)
    (hst : ∀ a, base = some a → (storeCells (a.add (sLen * i.size)) news').run P w = .ok () w2) (hb : base = none → w2 = w) :
    (Builtin.append_ #[sT, xT] ty #[.slice base sLen sCap, x']).run P w = .ok (.slice base (sLen + n) sCap) w2 := by
  rcases hs with ⟨d, hu, hd, hlen, hf⟩ | ⟨k, kk, l, hu, rfl, hl, hn1, hn2, rfl⟩
  · refine rb (run_underlying ht w) (rb (run_sizeOf' hi w) (rb (run_underlying hu w) ?_))
    cases base with
    | none =>
      rw [hb rfl]
      cases d <;> first
        | exact absurd rfl (hd _)
        | exact rpu (rn Bool.false_ne_true (rb (hlen w) (rp hroom (rb (rp rfl (hf w (fun _ => rfl))) rfl))))
    | some a =>
      have hst' := hst a rfl
      cases d <;> first
        | exact absurd rfl (hd _)
        | exact rpu (rn Bool.false_ne_true (rb (hlen w) (rp hroom (rb (rp rfl (hf w (fun _ => rfl))) (rb hst' rfl)))))
  · have hln : ¬ (IntKind.i64.wrap l < 0) := by omega
    have h48 : ¬ (IntKind.i64.wrap l * ((i.bytes : Nat) : Int) > 2 ^ 48) := by
      have : ((n * i.bytes : Nat) : Int) = (n : Int) * (i.bytes : Int) := Int.natCast_mul _ _
      rw [hl]
      omega
    have hln' : (IntKind.i64.wrap l).toNat = n := by omega
    have ha : (asInt (.int kk l)).run P w = .ok l w := rfl
    refine rb (run_underlying ht w) (rb (run_sizeOf' hi w) (rb (run_underlying hu w) (rpu (rp rfl (rb ha (rn hln (rb (run_typeInfo w hi) (rn h48 ?_))))))))
    simp only [hln']
    refine rp hroom (rb (rn (by simp) (Src.zeros_run hi hz hzs w)) ?_)
    cases base with
    | none => rw [hb rfl]; rfl
    | some a => exact rb (hst a rfl) rfl

/-- The model's append, where there is none. -/
theorem run_app_grow {sT xT ty e : TypeId} {i : TypeInfo} {z : Value} {x' : Value} {n : Nat} {news' : List Value} (ht : P.underlying sT = some (.slice e)) (hi : P.info? e = some i) (hz : i.zero = some z) (hzs : z.cells.size = i.size) (w : World)
    (hs : Src P w i z xT x' n news')
    (base : Option Addr) (sLen sCap : Nat) (hroom : ¬ (sLen + n ≤ sCap)) (h1 : sLen + n ≤ 70368744177664) (h2 : (sLen + n) * i.bytes ≤ 70368744177664) (olds' : List Value)
    (hold : ∀ w2 : World, (∀ a, w2.cell? a = w.cell? a) → (Builtin.firstCells i.size sLen (.slice base sLen sCap)).run P w2 = .ok olds'.toArray w2) :
    (Builtin.append_ #[sT, xT] ty #[.slice base sLen sCap, x']).run P w =
      .ok (.slice (some ⟨w.heap.size, 0, none⟩) (sLen + n) (grownCap w (sLen + n) sCap e)) (w.drew.alloc (.cells (olds'.toArray ++ news'.toArray ++ Builtin.zeroCells z.cells (grownCap w (sLen + n) sCap e - (sLen + n))) e)) := by
  have hfit := growslice_fits (need := sLen + n) (old := sCap) (bytes := i.bytes) (by omega) (by omega)
  have c1 : ∀ b : Bool, ¬ (((sLen + n : Nat) : Int) > IntKind.i64.max ∧ (b = true ∨ i.bytes = 0)) := fun b h => by
    have : IntKind.i64.max = 9223372036854775807 := by decide
    omega
  have c2 : ¬ (Builtin.nextslicecap (sLen + n) sCap * i.bytes > 2 ^ 48) := by omega
  have ch : (choose (.appendCap (sLen + n) sCap e)).run P w = .ok (grownCap w (sLen + n) sCap e) w.drew := rfl
  have cd : ∀ a, w.drew.cell? a = w.cell? a := fun _ => rfl
  rcases hs with ⟨d, hu, hd, hlen, hf⟩ | ⟨k, kk, l, hu, rfl, hl, hn1, hn2, rfl⟩
  · refine rb (run_underlying ht w) (rb (run_sizeOf' hi w) (rb (run_underlying hu w) ?_))
    cases d <;> first
      | exact absurd rfl (hd _)
      | exact rpu (rn Bool.false_ne_true (rb (hlen w) (rn hroom (rb (run_typeInfo w hi) (rn (c1 false) (rb (run_typeInfo w hi) (rn c2 (rb ch (rb (run_typeInfo _ hi) (rb (run_askRoom _ _ _) (rb (hold _ cd) (rb (rp rfl (hf _ cd)) (rb (run_zeroValue' hi hz _) rfl)))))))))))))
  · have hln : ¬ (IntKind.i64.wrap l < 0) := by omega
    have h48 : ¬ (IntKind.i64.wrap l * ((i.bytes : Nat) : Int) > 2 ^ 48) := by
      have : ((n * i.bytes : Nat) : Int) = (n : Int) * (i.bytes : Int) := Int.natCast_mul _ _
      rw [hl]
      omega
    have hln' : (IntKind.i64.wrap l).toNat = n := by omega
    have ha : (asInt (.int kk l)).run P w = .ok l w := rfl
    refine rb (run_underlying ht w) (rb (run_sizeOf' hi w) (rb (run_underlying hu w) (rpu (rp rfl (rb ha (rn hln (rb (run_typeInfo w hi) (rn h48 ?_))))))))
    simp only [hln']
    exact rn hroom (rb (run_typeInfo w hi) (rn (fun h => c1 true ⟨h.1, .inl rfl⟩) (rb (run_typeInfo w hi) (rn c2 (rb ch (rb (run_typeInfo _ hi) (rb (run_askRoom _ _ _) (rb (hold _ cd) (rb (rn (by simp) (Src.zeros_run hi hz hzs _)) (rb (run_zeroValue' hi hz _) rfl)))))))))) 

theorem VRs.prefix_getD {l : List Value} {a b : Array Value} (hv : VRs m l a.toList) : ∀ (i : Nat) (v : Value), l[i]? = some v → ∃ v', (a ++ b)[i]? = some v' ∧ VR m v v' := by
  intro i v hi
  obtain ⟨v', h1, h2⟩ := hv.get hi
  have hlt : i < a.size := by
    rcases Nat.lt_or_ge i a.size with h | h
    · exact h
    · rw [List.getElem?_eq_none (by simpa using h)] at h1; cases h1
  exact ⟨v', by rw [Array.getElem?_append_left hlt]; simpa using h1, h2⟩

/-- A row that has grown: a new block, of which only the front is known. -/
theorem grown_sim (R : Rel P m h w) {e : TypeId} {i : TypeInfo} {z : Value} (hi : P.info? e = some i) (hzs : z.cells.size = i.size) {cs : List Value} {cs' : Array Value} (hv : VRs m cs cs'.toList) (h1 : cs.all Value.oneCell' = true)
    {need old : Nat} (hn : need ≤ maxLen) (hl : cs.length = need * i.size) :
    ∃ m', Rel P m' (h.push (.cells cs e false)) (w.drew.alloc (.cells (cs' ++ Builtin.zeroCells z.cells (grownCap w need old e - need)) e)) ∧
      VR m' (.slice (some ⟨h.next, 0, none⟩) need opnCap) (.slice (some ⟨w.heap.size, 0, none⟩) need (grownCap w need old e)) ∧
      Fr m h w m' (h.push (.cells cs e false)) (w.drew.alloc (.cells (cs' ++ Builtin.zeroCells z.cells (grownCap w need old e - need)) e)) := by
  have hge := grownCap_ge w need old e
  have hle := grownCap_le_maxLen w need old e hn
  have hsz : (cs' ++ Builtin.zeroCells z.cells (grownCap w need old e - need)).size = grownCap w need old e * i.size := by
    have : cs.length = cs'.size := by simpa using hv.1
    rw [Array.size_append, size_zeroCells, hzs, ← this, hl, ← Nat.add_mul]
    congr 1; omega
  have hnew := R.new (w' := w.drew.alloc (.cells (cs' ++ Builtin.zeroCells z.cells (grownCap w need old e - need)) e)) (c := cs' ++ Builtin.zeroCells z.cells (grownCap w need old e - need)) (el := e) (fr := (0, 0)) rfl (cs := cs)
    ⟨w.heap.size, 0, grownCap w need old e * i.size, eszOf P e⟩ rfl hsz.symm rfl rfl (by rw [hsz, hl]; exact Nat.mul_le_mul_right _ hge) hv.prefix_getD (.inl rfl) (fun j v hj => List.all_eq_true.1 h1 v (List.mem_of_getElem? hj)) rfl rfl rfl
  exact ⟨_, hnew.1, VR.slOpn (m := m.upd h.next ⟨w.heap.size, 0, grownCap w need old e * i.size, eszOf P e⟩) h.next 0 need _ _ _ (Mp.upd_same _ _ _) (by decide) hge (by simp [eszOf, hi]) hle, hnew.2⟩

theorem aAppend_sim (R : Rel P m h w) {sT xT ty : TypeId} {s x s' x' v : Value} {h' : Heap} (hs : VR m s s') (hx : VR m x x') (ha : aAppend P h sT xT s x = some (v, h')) :
    Sim P m h w (Builtin.append_ #[sT, xT] ty #[s', x']) v h' := by
  unfold aAppend at ha
  split at ha
  · rename_i e base sLen sCap ht
    split at ha
    · rename_i i hi
      split at ha
      · rename_i z hz
        cases hb : Nat.beq z.cells.size i.size && plainB 4 z && !(Nat.beq i.size 0) with
        | false => rw [hb] at ha; cases ha
        | true =>
          rw [hb] at ha
          simp only [cond_true] at ha
          simp only [Bool.and_eq_true] at hb
          obtain ⟨⟨hb1, hb2⟩, hb3⟩ := hb
          have hzs := Nat.eq_of_beq_eq_true hb1
          split at ha
          · rename_i n news hsrc
            obtain ⟨news', hv, hlen, hS⟩ := aSrc_sim R hi hz hzs hb2 hx hsrc
            cases hn : Nat.beq n 0 with
            | true =>
              rw [hn] at ha
              simp only [cond_true] at ha
              have h0 := Nat.eq_of_beq_eq_true hn
              subst h0
              have hnil : news' = [] := List.eq_nil_of_length_eq_zero (by rw [← hv.1, hlen, Nat.zero_mul])
              cases hc : Nat.ble sLen sCap with
              | false => rw [hc] at ha; cases ha
              | true =>
                rw [hc] at ha
                injection ha with ha; injection ha with e1 e2; subst e1; subst e2
                have hle := ble_iff.1 hc
                have fin : ∀ (b : Option Addr) (c : Nat), sLen ≤ c → (Builtin.append_ #[sT, xT] ty #[.slice b sLen c, x']).run P w = .ok (.slice b sLen c) w := fun b c hc =>
                  run_app_room ht hi hz hzs w hS b sLen c (by omega) w (fun a _ => by rw [hnil]; rfl) (fun _ => rfl)
                cases base with
                | none => cases hs; exact .same R (fin none 0 (Nat.le_refl _)) .slNil
                | some a =>
                  obtain ⟨k, off, sp⟩ := a
                  have hs0 := hs
                  cases hs with
                  | sl _ _ _ _ loc hk ho => exact .same R (fin _ _ hle) hs0
                  | slOpn _ _ _ _ cap' loc hk ho hl' _ _ => exact .same R (fin _ _ hl') hs0
                  | slEmp a c => exact .same R (fin _ _ (Nat.zero_le _)) hs0
            | false =>
              rw [hn] at ha
              simp only [cond_false] at ha
              have hn0 := beq_false hn
              cases hsm : small (sLen + n) && small ((sLen + n) * i.bytes) with
              | false => rw [hsm] at ha; cases ha
              | true =>
                rw [hsm] at ha
                simp only [cond_true] at ha
                simp only [Bool.and_eq_true] at hsm
                have hsm1 := small_le hsm.1
                have hsm2 := small_le hsm.2
                have hmax : sLen + n ≤ maxLen := by unfold maxLen; omega
                split at ha
                · split at ha
                  · rename_i h2 h3
                    injection ha with ha; injection ha with e1 e2; subst e1; subst e2
                    cases hs
                    unfold aNew at h3
                    cases ho : news.all Value.oneCell' with
                    | false => rw [ho] at h3; cases h3
                    | true =>
                      rw [ho] at h3; injection h3 with h3; subst h3
                      have hrun := run_app_grow (ty := ty) ht hi hz hzs w hS none 0 0 (by omega) (by omega) (by simpa using hsm2) [] (fun w2 _ => by simp [Builtin.firstCells])
                      obtain ⟨m', R', V', F'⟩ := grown_sim R hi hzs (cs' := news'.toArray) (by simpa using hv) ho (need := n) (old := 0) (by unfold maxLen; omega) hlen
                      simp only [Nat.zero_add, Array.empty_append] at hrun
                      exact ⟨_, m', _, hrun, R', V', F'⟩
                  · cases ha
                · rename_i k off
                  cases hop : isOpn sCap with
                  | true =>
                    rw [hop] at ha
                    simp only [cond_true] at ha
                    cases hE : Nat.beq sCap 2535301200456458802993406410752 with
                    | true => rw [hE] at ha; cases ha
                    | false =>
                      rw [hE] at ha
                      simp only [cond_false] at ha
                      split at ha
                      · rename_i cs el hg
                        cases hq : Nat.beq el e && Nat.ble (off + sLen * i.size) cs.length && news.all Value.oneCell' with
                        | false => rw [hq] at ha; cases ha
                        | true =>
                          rw [hq] at ha
                          simp only [cond_true] at ha
                          injection ha with ha; injection ha with e1 e2; subst e1; subst e2
                          simp only [Bool.and_eq_true] at hq
                          obtain ⟨⟨hq1, hq2⟩, hq3⟩ := hq
                          have hel := Nat.eq_of_beq_eq_true hq1
                          subst hel
                          have hble := ble_iff.1 hq2
                          rcases sl_inv hs with ⟨loc, cap', hk, rfl, hor⟩ | ⟨_, _, hE', _⟩
                          · rcases hor with ⟨ho, _⟩ | ⟨_, hl', hz', hm'⟩
                            · rw [ho] at hop; cases hop
                            · have hrd : rdN h k off (sLen * i.size) = some ((cs.drop off).take (sLen * i.size)) := by
                                unfold rdN; rw [hg]; simp only; rw [hq2]; rfl
                              obtain ⟨olds', hvo, hlo, hco, h1o⟩ := rdN_sim R hk hrd
                              have hall : ((cs.drop off).take (sLen * i.size) ++ news).all Value.oneCell' = true := by
                                rw [List.all_append, hq3, Bool.and_true, List.all_eq_true]
                                intro v hv
                                obtain ⟨j, hj, rfl⟩ := List.getElem_of_mem hv
                                exact h1o j _ (List.getElem?_eq_getElem hj)
                              have hvn := hvo.append hv
                              have hln : ((cs.drop off).take (sLen * i.size) ++ news).length = (sLen + n) * i.size := by rw [List.length_append, hlo, hlen, Nat.add_mul]
                              obtain ⟨c, fr, c1, c2, c3, c4, c5, c6, c7⟩ := R.ent k loc cs el false hk hg
                              have hesz : loc.esz = i.size := by rw [c4, eszOf, hi]; rfl
                              by_cases hroom : sLen + n ≤ cap'
                              · -- in place
                                have hcap : loc.dl + off + (sLen + n) * i.size ≤ c.size := by
                                  rw [c2, ← hz', hesz]
                                  have := Nat.mul_le_mul_right i.size hroom
                                  omega
                                have hone := hv.one hq3
                                have hl2 : news'.length = n * i.size := by rw [← hv.1, hlen]
                                rw [Nat.add_mul] at hcap
                                have hst := run_storeCells_cells (P := P) loc.blk (loc.dl + off + sLen * i.size) news' 0 w
                                  (fun j hj => by rw [cell_at c1]; simp only [Nat.add_zero]; rw [Array.getElem?_eq_getElem (by omega)]; rfl)
                                  (fun j hj => by
                                    have := fr_ok (c6 rfl) (i := loc.dl + off + sLen * i.size + 0 + j) (by omega)
                                    simp only [World.frozen?, c1, Bool.and_eq_false_iff]
                                    by_cases hx : fr.1 ≤ loc.dl + off + sLen * i.size + 0 + j
                                    · exact .inr (by simpa using fun hy => this ⟨hx, hy⟩)
                                    · exact .inl (by simpa using hx)) hone
                                rw [Nat.add_zero] at hst
                                obtain ⟨g1, g2, g3, g4, g5, g6⟩ := setCells_heap loc.blk news' (loc.dl + off + sLen * i.size) w
                                obtain ⟨c', ga, gb⟩ := g6 c el fr c1
                                have hc's : c'.size = c.size := by rw [← Array.length_toList, gb, setL_length, Array.length_toList]
                                have hrun := run_app_room (ty := ty) ht hi hz hzs w hS (some ⟨loc.blk, loc.dl + off, none⟩) sLen cap' hroom (w.setCells loc.blk (loc.dl + off + sLen * i.size) news')
                                  (fun a ha => by injection ha with ha; subst ha; rw [add_none]; exact hst) (fun hh => by cases hh)
                                have hre := R.regrow hk hg g1 g2 ⟨loc.blk, loc.dl + off, loc.csz, loc.esz⟩ rfl (cs' := (cs.drop off).take (sLen * i.size) ++ news) (el' := el)
                                  (fun m' hm => ⟨c', fr, ga, by rw [hc's, c2], by simp only; rw [hln, Nat.add_mul]; omega, c4, fun j v hj => by
                                    simp only
                                    by_cases hjl : j < sLen * i.size
                                    · rw [List.getElem?_append_left (by rw [hlo]; exact hjl)] at hj
                                      obtain ⟨v', a, b⟩ := hvo.get hj
                                      have := hco j v' a
                                      rw [add_none, cell_at c1] at this
                                      refine ⟨v', ?_, b.mono hm⟩
                                      rw [← Array.getElem?_toList, gb, setL_get, if_neg (by omega), Array.getElem?_toList]
                                      exact this
                                    · rw [List.getElem?_append_right (by rw [hlo]; omega), hlo] at hj
                                      obtain ⟨v', a, b⟩ := hv.get hj
                                      have hjn : j - sLen * i.size < news'.length := by
                                        rcases Nat.lt_or_ge (j - sLen * i.size) news'.length with h | h
                                        · exact h
                                        · rw [List.getElem?_eq_none h] at a; cases a
                                      refine ⟨v', ?_, b.mono hm⟩
                                      rw [← Array.getElem?_toList, gb, setL_get, if_pos (by have := Array.length_toList (xs := c); omega)]
                                      rw [← a]; congr 1; omega, fun _ => by rw [hc's]; exact c6 rfl,
                                    fun j v hj => List.all_eq_true.1 hall v (List.mem_of_getElem? hj)⟩) g3 g4 g5
                                exact ⟨_, _, _, hrun, hre.1, VR.slOpn (m := m.upd h.next ⟨loc.blk, loc.dl + off, loc.csz, loc.esz⟩) h.next 0 (sLen + n) _ _ _ (Mp.upd_same _ _ _) (by decide) hroom (by simpa using hz') hm', hre.2⟩
                              · -- a new block
                                have hrun := run_app_grow (ty := ty) ht hi hz hzs w hS (some ⟨loc.blk, loc.dl + off, none⟩) sLen cap' hroom hsm1 hsm2 olds'
                                  (fun w2 hw => run_firstCells_some w2 i.size sLen _ sLen cap' olds' (by rw [← hvo.1, hlo]) (fun j v hj => by rw [hw]; exact hco j v hj))
                                obtain ⟨Rk, Fk⟩ := R.kill k
                                obtain ⟨m', R', V', F'⟩ := grown_sim Rk hi hzs (cs' := olds'.toArray ++ news'.toArray) (by simpa using hvn) hall (need := sLen + n) (old := cap') hmax hln
                                rw [Heap.next_set] at V'
                                exact ⟨_, m', _, hrun, R', V', Fk.trans F'⟩
                          · simp only [slE] at hE'
                            injection hE' with _ _ hE'
                            rw [hE'] at hE; simp at hE
                      · cases ha
                  | false =>
                    rw [hop] at ha
                    simp only [cond_false] at ha
                    rcases sl_inv hs with ⟨loc, cap', hk, rfl, hor⟩ | ⟨_, ho', _⟩
                    · rcases hor with ⟨_, rfl⟩ | ⟨ho, _⟩
                      · cases hfit : Nat.ble (sLen + n) cap' with
                        | true =>
                          rw [hfit] at ha
                          simp only [cond_true] at ha
                          split at ha
                          · rename_i h2 hw
                            injection ha with ha; injection ha with e1 e2; subst e1; subst e2
                            obtain ⟨hst, R', F'⟩ := wrN_sim R hk hw hv
                            have hrun := run_app_room (ty := ty) ht hi hz hzs w hS (some ⟨loc.blk, loc.dl + off, none⟩) sLen cap' (ble_iff.1 hfit) _
                              (fun a ha => by injection ha with ha; subst ha; rw [add_none, Nat.add_assoc]; exact hst) (fun hh => by cases hh)
                            exact ⟨_, m, _, hrun, R', .sl _ _ _ _ _ hk hop, F'⟩
                          · cases ha
                        | false =>
                          rw [hfit] at ha
                          simp only [cond_false] at ha
                          split at ha
                          · rename_i old hrd
                            split at ha
                            · rename_i h2 h3
                              injection ha with ha; injection ha with e1 e2; subst e1; subst e2
                              obtain ⟨olds', hvo, hlo, hco, h1o⟩ := rdN_sim R hk hrd
                              unfold aNew at h3
                              cases ho : (old ++ news).all Value.oneCell' with
                              | false => rw [ho] at h3; cases h3
                              | true =>
                                rw [ho] at h3; injection h3 with h3; subst h3
                                have hnf : ¬ (sLen + n ≤ cap') := fun h => by rw [ble_iff.2 h] at hfit; cases hfit
                                have hrun := run_app_grow (ty := ty) ht hi hz hzs w hS (some ⟨loc.blk, loc.dl + off, none⟩) sLen cap' hnf hsm1 hsm2 olds'
                                  (fun w2 hw => run_firstCells_some w2 i.size sLen _ sLen cap' olds' (by rw [← hvo.1, hlo]) (fun j v hj => by rw [hw]; exact hco j v hj))
                                obtain ⟨m', R', V', F'⟩ := grown_sim R hi hzs (cs' := olds'.toArray ++ news'.toArray) (by simpa using hvo.append hv) ho (need := sLen + n) (old := cap') hmax (by rw [List.length_append, hlo, hlen, Nat.add_mul])
                                exact ⟨_, m', _, hrun, R', V', F'⟩
                            · cases ha
                          · cases ha
                      · rw [ho] at hop; cases hop
                    · rw [ho'] at hop; cases hop
                · cases ha
          · cases ha
      · cases ha
    · cases ha
  · cases ha
end
end Go.AM
