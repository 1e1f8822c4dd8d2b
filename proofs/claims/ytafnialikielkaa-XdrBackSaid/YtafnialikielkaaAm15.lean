/- The abstract machine, part 15: rows that are read, rows that are built. -/
import Derived.Test.YtafnialikielkaaAm14
namespace Go.AM
open Go

/-- Behind: what was there, but for S, is there. -/
def Same (h h' : Heap) (S : Nat → Prop) : Prop := h.next ≤ h'.next ∧ ∀ j e, h.get j = some e → ¬ S j → h'.get j = some e

theorem Same.refl (h : Heap) (S : Nat → Prop) : Same h h S := ⟨Nat.le_refl _, fun _ _ h _ => h⟩
theorem Same.trans {h h1 h2 : Heap} {S T U : Nat → Prop} (a : Same h h1 S) (b : Same h1 h2 T) (hs : ∀ j, S j → U j) (ht : ∀ j, j < h.next → T j → U j) : Same h h2 U :=
  ⟨Nat.le_trans a.1 b.1, fun j e hj hu => b.2 j e (a.2 j e hj (fun x => hu (hs j x))) (fun x => hu (ht j (Heap.get_lt hj) x))⟩
theorem Same.mono {h h' : Heap} {S T : Nat → Prop} (a : Same h h' S) (hs : ∀ j, S j → T j) : Same h h' T := ⟨a.1, fun j e hj ht => a.2 j e hj (fun x => ht (hs j x))⟩
theorem Same.push (h : Heap) (e : Ent) (S : Nat → Prop) : Same h (h.push e) S := ⟨by simp, fun j e' hj _ => Heap.get_push_old hj⟩
theorem Same.set (h : Heap) (k : Nat) (e : Ent) {S : Nat → Prop} (hS : S k) : Same h (h.set k e) S := ⟨by simp, fun j e' hj hn => by rw [Heap.get_set_ne (fun x => by subst x; exact hn hS)]; exact hj⟩

def noS : Nat → Prop := fun _ => False

/-- A slice of elements of one cell, as it reads. -/
def Row (h : Heap) (v : Value) (vs : List Value) : Prop :=
  (v = .slice none 0 0 ∧ vs = []) ∨ (vs = [] ∧ ∃ k off c, v = .slice (some ⟨k, off, none⟩) 0 c) ∨
  ∃ k off cap cs el ro, v = .slice (some ⟨k, off, none⟩) vs.length cap ∧ h.get k = some (.cells cs el ro) ∧ off + vs.length ≤ cs.length ∧ (cs.drop off).take vs.length = vs

theorem Row.nil (h : Heap) : Row h (.slice none 0 0) [] := .inl ⟨rfl, rfl⟩
theorem Row.same {h h' : Heap} {S : Nat → Prop} {v : Value} {vs : List Value} (r : Row h v vs) (hs : Same h h' S) (hv : ∀ a n c, v = .slice (some a) n c → n ≠ 0 → ¬ S a.block) : Row h' v vs := by
  rcases r with r | r | ⟨k, off, cap, cs, el, ro, rfl, hg, h1, h2⟩
  · exact .inl r
  · exact .inr (.inl r)
  · by_cases hz : vs.length = 0
    · have := List.eq_nil_of_length_eq_zero hz
      subst this
      exact .inr (.inl ⟨rfl, k, off, cap, rfl⟩)
    · exact .inr (.inr ⟨k, off, cap, cs, el, ro, rfl, hs.2 k _ hg (hv _ _ _ rfl hz), h1, h2⟩)
theorem Row.of {h : Heap} {k off cap : Nat} {cs : List Value} {el : TypeId} {ro : Bool} (hg : h.get k = some (.cells cs el ro)) (n : Nat) (hl : off + n ≤ cs.length) : Row h (.slice (some ⟨k, off, none⟩) n cap) ((cs.drop off).take n) := by
  have hn : ((cs.drop off).take n).length = n := by simp; omega
  refine .inr (.inr ⟨k, off, cap, cs, el, ro, by rw [hn], hg, by rw [hn]; exact hl, by rw [hn]⟩)
theorem Row.whole {h : Heap} {k cap : Nat} {cs : List Value} {el : TypeId} {ro : Bool} (hg : h.get k = some (.cells cs el ro)) : Row h (.slice (some ⟨k, 0, none⟩) cs.length cap) cs := by
  have := Row.of (off := 0) (cap := cap) hg cs.length (by omega)
  simpa using this

section
variable {P : Program} {h : Heap} {v : Value} {vs : List Value}

theorem Row.aLen {t e : TypeId} (r : Row h v vs) (hu : P.underlying t = some (.slice e)) : AM.aLen P t v = some (.int .i64 vs.length) := by
  rcases r with ⟨rfl, rfl⟩ | ⟨rfl, k, off, c, rfl⟩ | ⟨k, off, cap, cs, el, ro, rfl, _⟩ <;> simp [AM.aLen, hu]

theorem Row.builtin {t e : TypeId} (r : Row h v vs) (hu : P.underlying t = some (.slice e)) : aBuiltin P h .len [t] [v] = some (.int .i64 vs.length, h) := by
  simp only [aBuiltin, r.aLen hu]

theorem Row.index {t e : TypeId} {i : TypeInfo} (r : Row h v vs) (hu : P.underlying t = some (.slice e)) (hi : P.info? e = some i) (hs : i.size = 1) {j : Nat} {kd : IntKind} (hj : j < vs.length) :
    ∃ k off, aIndexAddr P t v (.int kd j) = some (.pointer (some ⟨k, off, none⟩)) ∧ rd1 h k off = some vs[j] := by
  rcases r with ⟨rfl, rfl⟩ | ⟨rfl, k, off, c, rfl⟩ | ⟨k, off, cap, cs, el, ro, rfl, hg, h1, h2⟩
  · simp at hj
  · simp at hj
  · refine ⟨k, off + j, ?_, ?_⟩
    · simp only [aIndexAddr, hu, hi, hs, Nat.mul_one, Int.toNat_natCast]
      rw [if_pos ⟨by omega, by omega⟩]
    · have : ((cs.drop off).take vs.length)[j]? = vs[j]? := by rw [h2]
      rw [List.getElem?_take, if_pos hj, List.getElem?_drop] at this
      simp only [rd1, hg, this]
      exact List.getElem?_eq_getElem hj

theorem aLoad_one {t : TypeId} {d : TypeDesc} (hu : P.underlying t = some d) (h1 : ∀ fs, d ≠ .struct fs) (h2 : ∀ n e, d ≠ .array n e) {k off : Nat} : aLoad P h t (.pointer (some ⟨k, off, none⟩)) = rd1 h k off := by
  cases d <;> first | exact absurd rfl (h1 _) | exact absurd rfl (h2 _ _) | simp [aLoad, hu]

theorem aSrc_eq {xT : TypeId} {d : TypeDesc} {i : TypeInfo} {z x : Value} (hu : P.underlying xT = some d) (hd : ∀ k, d ≠ .int k) : aSrc P h i z xT x = (match x with
      | .slice none _ _ => some (0, [])
      | .slice (some ⟨k, off, none⟩) n _ => bif Nat.beq n 0 then some (0, []) else match rdN h k off (n * i.size) with
        | some l => some (n, l)
        | none => none
      | .string s => bif Nat.beq i.size 1 then some (s.size, s.data.toList.map fun b => .int .u8 b.toNat) else none
      | _ => none) := by
  unfold aSrc
  rw [hu]
  cases d <;> first | exact absurd rfl (hd _) | rfl

theorem Row.src {xT : TypeId} {d : TypeDesc} {i : TypeInfo} {z : Value} (r : Row h v vs) (hu : P.underlying xT = some d) (hd : ∀ k, d ≠ .int k) (hs : i.size = 1) : aSrc P h i z xT v = some (vs.length, vs) := by
  rw [aSrc_eq hu hd]
  rcases r with ⟨rfl, rfl⟩ | ⟨rfl, k, off, c, rfl⟩ | ⟨k, off, cap, cs, el, ro, rfl, hg, h1, h2⟩
  · rfl
  · rfl
  · cases hn : Nat.beq vs.length 0 with
    | true =>
      have : vs = [] := List.eq_nil_of_length_eq_zero (Nat.eq_of_beq_eq_true hn)
      subst this; rfl
    | false =>
      simp only [hn, hs, Nat.mul_one, cond_false, rdN, hg, ble_iff.2 h1, cond_true, h2]

theorem Src.string {xT : TypeId} {i : TypeInfo} {z : Value} {s : ByteArray} (hu : P.underlying xT = some .string) (hs : i.size = 1) : aSrc P h i z xT (.string s) = some (s.size, s.data.toList.map fun b => .int .u8 b.toNat) := by
  rw [aSrc_eq hu (fun k => by simp)]
  simp [hs]

/-- A row that is ours to append to: nil, or an empty one of no room, or one of unknown room, of type el. -/
def Buf (h : Heap) (el : TypeId) (v : Value) (vs : List Value) : Prop :=
  (v = .slice none 0 0 ∧ vs = []) ∨ (vs = [] ∧ ∃ k cs e ro, v = .slice (some ⟨k, 0, none⟩) 0 0 ∧ h.get k = some (.cells cs e ro)) ∨
  ∃ k cap, v = .slice (some ⟨k, 0, none⟩) vs.length cap ∧ isOpn cap = true ∧ Nat.beq cap 2535301200456458802993406410752 = false ∧ h.get k = some (.cells vs el false)

/-- The block of such a row that goes with an append. -/
def bufBlk (v : Value) : Nat → Prop := fun j => ∃ o n c, v = .slice (some ⟨j, o, none⟩) n c

theorem Buf.row {el : TypeId} (b : Buf h el v vs) : Row h v vs := by
  rcases b with b | ⟨rfl, k, cs, e, ro, rfl, _⟩ | ⟨k, cap, rfl, _, _, hg⟩
  · exact .inl b
  · exact .inr (.inl ⟨rfl, k, 0, 0, rfl⟩)
  · exact Row.whole hg
theorem Buf.same {el : TypeId} {h' : Heap} {S : Nat → Prop} (b : Buf h el v vs) (hs : Same h h' S) (hn : ∀ j, bufBlk v j → ¬ S j) : Buf h' el v vs := by
  rcases b with b | ⟨rfl, k, cs, e, ro, rfl, hg⟩ | ⟨k, cap, rfl, h1, h2, hg⟩
  · exact .inl b
  · exact .inr (.inl ⟨rfl, k, cs, e, ro, rfl, hs.2 k _ hg (hn _ ⟨_, _, _, rfl⟩)⟩)
  · exact .inr (.inr ⟨k, cap, rfl, h1, h2, hs.2 k _ hg (hn _ ⟨_, _, _, rfl⟩)⟩)
theorem Buf.lt {el : TypeId} (b : Buf h el v vs) : ∀ j, bufBlk v j → j < h.next := by
  rintro j ⟨o, n, c, hv⟩
  rcases b with ⟨rfl, _⟩ | ⟨rfl, k, cs, e, ro, rfl, hg⟩ | ⟨k, cap, rfl, h1, h2, hg⟩
  · cases hv
  · injection hv with hv; injection hv with hv; injection hv with hv; subst hv; exact Heap.get_lt hg
  · injection hv with hv; injection hv with hv; injection hv with hv; subst hv; exact Heap.get_lt hg

/-- An append to a row that is ours. -/
theorem Buf.append {el sT xT : TypeId} {i : TypeInfo} {z x : Value} {n : Nat} {news : List Value} (b : Buf h el v vs) (hu : P.underlying sT = some (.slice el)) (hi : P.info? el = some i) (hz : i.zero = some z) (hs : i.size = 1) (hzs : z.cells.size = 1) (hp : plainB 4 z = true)
    (hsrc : aSrc P h i z xT x = some (n, news)) (hn : news.length = n) (h1 : news.all Value.oneCell' = true) (hsm : small (vs.length + n) = true) (hsm2 : small ((vs.length + n) * i.bytes) = true) :
    ∃ v' h', aAppend P h sT xT v x = some (v', h') ∧ Buf h' el v' (vs ++ news) ∧ Same h h' (bufBlk v) ∧ (∀ j, bufBlk v' j → bufBlk v j ∨ h.next ≤ j) := by
  have hcond : (Nat.beq z.cells.size i.size && plainB 4 z && !(Nat.beq i.size 0)) = true := by rw [hzs, hs, hp]; rfl
  have pre : ∀ base sLen sCap, v = .slice base sLen sCap → aAppend P h sT xT v x = (bif Nat.beq n 0 then (bif Nat.ble sLen sCap then some (v, h) else none) else
          bif small (sLen + n) && small ((sLen + n) * i.bytes) then
            match base with
            | none => match aNew h el news with
              | some h' => some (.slice (some ⟨h.next, 0, none⟩) n opnCap, h')
              | none => none
            | some ⟨k, off, none⟩ =>
              bif isOpn sCap then
                bif Nat.beq sCap 2535301200456458802993406410752 then none else
                match h.get k with
                | some (.cells cs el' false) => bif Nat.beq el' el && Nat.ble (off + sLen * i.size) cs.length && news.all Value.oneCell' then
                    some (.slice (some ⟨h.next, 0, none⟩) (sLen + n) opnCap, (h.set k .dead).push (.cells ((cs.drop off).take (sLen * i.size) ++ news) el false)) else none
                | _ => none
              else bif Nat.ble (sLen + n) sCap then
                match wrN h k (off + sLen * i.size) news with
                | some h' => some (.slice base (sLen + n) sCap, h')
                | none => none
              else match rdN h k off (sLen * i.size) with
                | some old => match aNew h el (old ++ news) with
                  | some h' => some (.slice (some ⟨h.next, 0, none⟩) (sLen + n) opnCap, h')
                  | none => none
                | none => none
            | _ => none
          else none) := by
    intro base sLen sCap hv
    subst hv
    simp only [aAppend, hu, hi, hz, hcond, cond_true, hsrc]
    rfl
  cases h0 : Nat.beq n 0 with
  | true =>
    have hn0 := Nat.eq_of_beq_eq_true h0
    have hnil : news = [] := List.eq_nil_of_length_eq_zero (by omega)
    have hb : ∀ base sLen sCap, v = .slice base sLen sCap → sLen ≤ sCap → aAppend P h sT xT v x = some (v, h) := fun base sLen sCap hv hle => by
      rw [pre _ _ _ hv, h0, cond_true, ble_iff.2 hle, cond_true]
    refine ⟨v, h, ?_, by rw [hnil, List.append_nil]; exact b, Same.refl _ _, fun j hj => .inl hj⟩
    rcases b with ⟨hv, rfl⟩ | ⟨rfl, k, cs, e, ro, hv, hg⟩ | ⟨k, cap, hv, ho, hm, hg⟩
    · exact hb _ _ _ hv (Nat.le_refl _)
    · exact hb _ _ _ hv (Nat.le_refl _)
    · refine hb _ _ _ hv ?_
      have h2 := small_le hsm
      have h3 := ble_iff.1 ho
      omega
  | false =>
    have hne := beq_false h0
    have mk : ∀ (h' : Heap) (cs : List Value), cs.length = vs.length + n → h'.get h.next = some (.cells cs el false) → cs = vs ++ news → Buf h' el (.slice (some ⟨h.next, 0, none⟩) (vs.length + n) opnCap) (vs ++ news) := fun h' cs hl hg he => by
      subst he
      exact .inr (.inr ⟨h.next, opnCap, by rw [hl], by decide, by decide, hg⟩)
    have fresh : ∀ j, bufBlk (.slice (some ⟨h.next, 0, none⟩) (vs.length + n) opnCap) j → bufBlk v j ∨ h.next ≤ j := by
      rintro j ⟨o, m, c, hv⟩
      injection hv with hv; injection hv with hv; injection hv with hv; subst hv
      exact .inr (Nat.le_refl _)
    rcases b with ⟨hv, rfl⟩ | ⟨rfl, k, cs, e, ro, hv, hg⟩ | ⟨k, cap, hv, ho, hm, hg⟩
    · refine ⟨.slice (some ⟨h.next, 0, none⟩) n opnCap, h.push (.cells news el false), ?_, ?_, Same.push _ _ _, ?_⟩
      · rw [pre _ _ _ hv, h0, cond_false]
        simp only [List.length_nil] at hsm hsm2
        simp only [hsm, hsm2, Bool.and_self, cond_true, aNew, h1]
      · have := mk (h.push (.cells news el false)) news (by simpa using hn) Heap.get_push_new rfl
        simpa using this
      · simpa using fresh
    · refine ⟨.slice (some ⟨h.next, 0, none⟩) n opnCap, h.push (.cells news el false), ?_, ?_, Same.push _ _ _, ?_⟩
      · rw [pre _ _ _ hv, h0, cond_false]
        simp only [List.length_nil, Nat.zero_add] at hsm hsm2
        have hf : Nat.ble n 0 = false := by
          cases hb : Nat.ble n 0 with
          | false => rfl
          | true => have := ble_iff.1 hb; omega
        have ho : isOpn 0 = false := by decide
        simp only [Nat.zero_add, hsm, hsm2, Bool.and_self, cond_true, ho, cond_false, hf, Nat.zero_mul, rdN, hg, ble_iff.2 (Nat.zero_le _), List.drop_zero, List.take_zero, List.nil_append, aNew, h1]
      · have := mk (h.push (.cells news el false)) news (by simpa using hn) Heap.get_push_new rfl
        simpa using this
      · simpa using fresh
    · refine ⟨.slice (some ⟨h.next, 0, none⟩) (vs.length + n) opnCap, (h.set k .dead).push (.cells (vs ++ news) el false), ?_, mk _ (vs ++ news) (by rw [List.length_append, hn]) ?_ rfl, ?_, fresh⟩
      · rw [pre _ _ _ hv, h0, cond_false]
        have hle : Nat.ble (0 + vs.length) vs.length = true := ble_iff.2 (by omega)
        simp only [hsm, hsm2, Bool.and_self, cond_true, ho, hm, cond_false, hg, Nat.beq_refl, hs, Nat.mul_one, hle, h1, List.drop_zero, List.take_length]
      · have := Heap.get_push_new (h := h.set k .dead) (e := .cells (vs ++ news) el false)
        rwa [Heap.next_set] at this
      · refine ⟨by simp, fun j e hj hS => Heap.get_push_old ?_⟩
        rw [Heap.get_set_ne (fun x => by subst x; exact hS ⟨0, _, _, hv⟩)]
        exact hj
end
end Go.AM
