/- The abstract machine, part 17: what comes in: rows that are read. -/
import Derived.Test.YtanknjpcgceccaaLims4
import Derived.ChangeArms
import Derived.ChangeSlices

namespace Go.AM
open Go
def tiles (P : Program) : Nat → List Field → Option Nat
  | o, [] => some o
  | o, f :: fs => bif Nat.beq f.offset o then tiles P (o + P.cellsOf f.type) fs else none
def argT (P : Program) : Nat → TypeId → Bool
  | 0, _ => false
  | n + 1, t => match P.underlying t with
    | some .bool | some (.int _) | some .string => true
    | some (.slice e) => Nat.blt 0 (P.cellsOf e) && argT P n e
    | some (.struct fs) => (match tiles P 0 fs.toList with
        | some e => Nat.beq e (P.cellsOf t)
        | none => false) && fs.toList.all fun f => argT P n f.type
    | some (.array k e) => Nat.beq (P.cellsOf t) (k * P.cellsOf e) && argT P n e
    | _ => false
def ARd {H : Type} (P : Program) (h : Heap) : Nat → TypeId → List Value → DataW H → Prop
  | 0, _, _, _ => False
  | n + 1, t, cs, d => match P.underlying t with
    | some .bool => ∃ b, cs = [.bool b] ∧ d = .lit (.bool b)
    | some (.int k) => ∃ x, cs = [.int k x] ∧ d = .lit (.int k x) ∧ (Lit.int k x).wf = true
    | some .string => ∃ s : ByteArray, cs = [.string s] ∧ s.size ≤ maxLen ∧ d = .lit (.string s.data.toList)
    | some (.slice e) => (cs = [.slice none 0 0] ∧ d = .nil) ∨ (∃ sp, cs = [slE] ∧ d = .slice [] sp) ∨
        ∃ k cap cells el es sp, cs = [.slice (some ⟨k, 0, none⟩) es.length cap] ∧ es ≠ [] ∧ cap ≤ maxLen ∧ es.length ≤ cap ∧ d = .slice es sp ∧ h.get k = some (.cells cells el true) ∧ cells.length = es.length * P.cellsOf e ∧
          ∀ (i : Nat) (di : DataW H), es[i]? = some di → ARd P h n e ((cells.drop (i * P.cellsOf e)).take (P.cellsOf e)) di
    | some (.struct fs) => ∃ ds, d = .agg ds ∧ cs.length = P.cellsOf t ∧ ds.length = fs.size ∧ ∀ (i : Nat) (f : Field) (di : DataW H), fs[i]? = some f → ds[i]? = some di → ARd P h n f.type ((cs.drop f.offset).take (P.cellsOf f.type)) di
    | some (.array k e) => ∃ ds, d = .agg ds ∧ cs.length = P.cellsOf t ∧ ds.length = k ∧ ∀ (i : Nat) (di : DataW H), ds[i]? = some di → ARd P h n e ((cs.drop (i * P.cellsOf e)).take (P.cellsOf e)) di
    | _ => False
theorem ARd.mono {H : Type} {P : Program} {h h' : Heap} (hs : Same h h' noS) : ∀ (n : Nat) (t : TypeId) (cs : List Value) (d : DataW H), ARd P h n t cs d → ARd P h' n t cs d
  | 0, _, _, _, r => r
  | n + 1, t, cs, d, r => by
    unfold ARd at r ⊢
    split at r
    · exact r
    · exact r
    · exact r
    · rcases r with r | r | ⟨k, cap, cells, el, es, sp, h1, h2, h3, h4, h5, h6, h7, h8⟩
      · exact .inl r
      · exact .inr (.inl r)
      · exact .inr (.inr ⟨k, cap, cells, el, es, sp, h1, h2, h3, h4, h5, hs.2 k _ h6 id, h7, fun i di hi => ARd.mono hs n _ _ _ (h8 i di hi)⟩)
    · obtain ⟨ds, h1, h2, h3, h4⟩ := r
      exact ⟨ds, h1, h2, h3, fun i f di hf hd => ARd.mono hs n _ _ _ (h4 i f di hf hd)⟩
    · obtain ⟨ds, h1, h2, h3, h4⟩ := r
      exact ⟨ds, h1, h2, h3, fun i di hd => ARd.mono hs n _ _ _ (h4 i di hd)⟩
    · exact r
theorem flat_seg {α : Type} : ∀ (css : List (List α)) (i : Nat) (c : List α), css[i]? = some c → ((css.flatten).drop ((css.take i).flatten.length)).take c.length = c
  | [], i, c, h => by simp at h
  | x :: css, 0, c, h => by simp at h; subst h; simp
  | x :: css, i + 1, c, h => by
    simp only [List.getElem?_cons_succ] at h
    have := flat_seg css i c h
    rw [List.take_succ_cons, List.flatten_cons, List.flatten_cons, List.length_append, List.drop_append, List.drop_eq_nil_of_le (by omega), List.nil_append, Nat.add_sub_cancel_left]
    exact this
theorem flat_len {α : Type} (sz : Nat) : ∀ (css : List (List α)), (∀ c ∈ css, c.length = sz) → css.flatten.length = css.length * sz
  | [], _ => by simp
  | x :: css, h => by
    rw [List.flatten_cons, List.length_append, List.length_cons, Nat.add_mul, flat_len sz css (fun c hc => h c (by simp [hc])), h x (by simp)]
    omega
theorem flat_take {α : Type} (sz : Nat) : ∀ (css : List (List α)) (L : List α), (∀ i c, css[i]? = some c → c = (L.drop (i * sz)).take sz) → css.length * sz ≤ L.length → css.flatten = L.take (css.length * sz)
  | [], L, _, _ => by simp
  | x :: css, L, h, hl => by
    rw [List.length_cons, Nat.add_mul, Nat.one_mul] at hl
    have h0 := h 0 x rfl
    rw [Nat.zero_mul, List.drop_zero] at h0
    have ih := flat_take sz css (L.drop sz) (fun i c hc => by
      have := h (i + 1) c hc
      rw [Nat.add_mul, Nat.one_mul] at this
      rw [this, List.drop_drop, Nat.add_comm]) (by rw [List.length_drop]; omega)
    rw [List.flatten_cons, ih, h0, List.length_cons, Nat.add_mul, Nat.one_mul, Nat.add_comm _ sz, List.take_add]
theorem VRs.flatten {m : Mp} : ∀ (css css' : List (List Value)), css.length = css'.length → (∀ (i : Nat) (c c' : List Value), css[i]? = some c → css'[i]? = some c' → VRs m c c') → VRs m css.flatten css'.flatten
  | [], [], _, _ => VRs.nil m
  | [], _ :: _, h, _ => by simp at h
  | _ :: _, [], h, _ => by simp at h
  | c :: css, c' :: css', h, hi => by
    rw [List.flatten_cons, List.flatten_cons]
    exact (hi 0 c c' rfl rfl).append (VRs.flatten css css' (by simpa using h) (fun i a b ha hb => hi (i + 1) a b (by simpa using ha) (by simpa using hb)))
def allRo (m : Mp) (h : Heap) : Prop := ∀ cb, ¬ Own m h cb
def Opens {H : Type} (P : Program) (w : World) (m : Mp) (h : Heap) (n : Nat) (t : TypeId) (cs : List Value) (d : DataW H) : Prop :=
  ∃ m' h' cs', Rel P m' h' w ∧ Same h h' noS ∧ m.le m' ∧ allRo m' h' ∧ VRs m' cs' cs ∧ ARd P h' n t cs' d ∧ cs'.all Value.oneCell' = true
section
variable {H : Type} {enc : TypeId × Value → H} {P : Program} {w : World} {sp : Nat → Bool} {held : Bool}
theorem seg_open {n : Nat} (ih : ∀ (t : TypeId) (cs : List Value) (d : DataW H), (∃ fuel ps, DataW.trod enc P w 0 sp held fuel t cs = some (d, ps)) → argT P n t = true → ∀ m h, Rel P m h w → allRo m h → Opens P w m h n t cs d) :
    ∀ (l : List (TypeId × List Value × DataW H)), (∀ x ∈ l, argT P n x.1 = true ∧ ∃ fuel ps, DataW.trod enc P w 0 sp held fuel x.1 x.2.1 = some (x.2.2, ps)) → ∀ m h, Rel P m h w → allRo m h →
    ∃ (m' : Mp) (h' : Heap) (css' : List (List Value)), Rel P m' h' w ∧ Same h h' noS ∧ m.le m' ∧ allRo m' h' ∧ css'.length = l.length ∧ ∀ (i : Nat) (x : TypeId × List Value × DataW H) (c' : List Value), l[i]? = some x → css'[i]? = some c' → VRs m' c' x.2.1 ∧ ARd P h' n x.1 c' x.2.2 ∧ c'.all Value.oneCell' = true
  | [], _, m, h, R, hro => ⟨m, h, [], R, Same.refl _ _, Mp.le_refl m, hro, rfl, fun i x c' hx => by simp at hx⟩
  | x :: l, hl, m, h, R, hro => by
    obtain ⟨ha, hx⟩ := hl x (by simp)
    obtain ⟨m1, h1, c1, R1, s1, le1, ro1, v1, a1, o1⟩ := ih x.1 x.2.1 x.2.2 hx ha m h R hro
    obtain ⟨m2, h2, css, R2, s2, le2, ro2, hlen, hcs⟩ := seg_open ih l (fun y hy => hl y (by simp [hy])) m1 h1 R1 ro1
    refine ⟨m2, h2, c1 :: css, R2, s1.trans s2 (fun _ x => x) (fun _ _ x => x), Mp.le_trans le1 le2, ro2, by simp [hlen], fun i y c' hy hc => ?_⟩
    cases i with
    | zero =>
      simp at hy hc
      subst hy; subst hc
      exact ⟨v1.mono le2, ARd.mono s2 _ _ _ _ a1, o1⟩
    | succ i => exact hcs i y c' (by simpa using hy) (by simpa using hc)
theorem tiles_le : ∀ (l : List Field) (o e : Nat), tiles P o l = some e → o ≤ e
  | [], o, e, h => by simp [tiles] at h; omega
  | f :: l, o, e, h => by
    unfold tiles at h
    cases hb : Nat.beq f.offset o with
    | false => rw [hb] at h; cases h
    | true =>
      rw [hb, cond_true] at h
      have := tiles_le l _ _ h
      omega
theorem tiles_flat (cs : List Value) : ∀ (l : List Field) (o e : Nat), tiles P o l = some e → (l.map fun f => (cs.drop f.offset).take (P.cellsOf f.type)).flatten = (cs.drop o).take (e - o)
  | [], o, e, h => by simp [tiles] at h; subst h; simp
  | f :: l, o, e, h => by
    unfold tiles at h
    cases hb : Nat.beq f.offset o with
    | false => rw [hb] at h; cases h
    | true =>
      rw [hb, cond_true] at h
      have ho := Nat.eq_of_beq_eq_true hb
      have hle := tiles_le l _ _ h
      rw [List.map_cons, List.flatten_cons, tiles_flat cs l _ _ h, ho, ← List.drop_drop]
      rw [show e - o = P.cellsOf f.type + (e - (o + P.cellsOf f.type)) by omega, List.take_add]
theorem tiles_off : ∀ (l : List Field) (o e : Nat), tiles P o l = some e → ∀ (i : Nat) (f : Field), l[i]? = some f → f.offset = o + ((l.take i).map fun f => P.cellsOf f.type).sum ∧ f.offset + P.cellsOf f.type ≤ e
  | [], o, e, h, i, f, hf => by simp at hf
  | g :: l, o, e, h, i, f, hf => by
    unfold tiles at h
    cases hb : Nat.beq g.offset o with
    | false => rw [hb] at h; cases h
    | true =>
      rw [hb, cond_true] at h
      have ho := Nat.eq_of_beq_eq_true hb
      cases i with
      | zero =>
        simp at hf; subst hf
        have := tiles_le l _ _ h
        simp; omega
      | succ i =>
        have := tiles_off l _ _ h i f (by simpa using hf)
        simp only [List.take_succ_cons, List.map_cons, List.sum_cons]
        omega
theorem trod_arr {t e : TypeId} {k fuel : Nat} {cs : List Value} {x : DataW H × List MemPlace} (ht : P.underlying t = some (.array k e)) (h : DataW.trod enc P w 0 sp held fuel t cs = some x) :
    ∃ (xs : List (DataW H × List MemPlace)) (n : Nat), fuel = n + 1 ∧ x = (.agg (xs.map (·.1)), xs.flatMap (·.2)) ∧ cs.length = P.cellsOf t ∧ xs.length = k ∧
      ∀ i, i < k → DataW.trod enc P w 0 sp held n e ((cs.drop (i * P.cellsOf e)).take (P.cellsOf e)) = xs[i]? := by
  cases fuel with
  | zero => simp [DataW.trod] at h
  | succ n =>
    unfold DataW.trod at h
    rw [ht] at h
    split at h <;> simp_all
    obtain ⟨hl, xs, hp, hd⟩ := h
    exact ⟨xs, hd.symm, by simpa using mapM_some_length hp, fun i hi => mapM_some_get hp i i (by simp [hi])⟩
theorem open_arg : ∀ (n : Nat) (t : TypeId) (cs : List Value) (d : DataW H), (∃ fuel ps, DataW.trod enc P w 0 (fun _ => true) held fuel t cs = some (d, ps)) → argT P n t = true → ∀ m h, Rel P m h w → allRo m h → Opens P w m h n t cs d
  | 0, _, _, _, _, ha, _, _, _, _ => by simp [argT] at ha
  | n + 1, t, cs, d, ⟨fuel, ps, ht⟩, ha, m, h, R, hro => by
    have stay : ∀ cs', VRs m cs' cs → ARd P h (n + 1) t cs' d → cs'.all Value.oneCell' = true → Opens P w m h (n + 1) t cs d := fun cs' a b c => ⟨m, h, cs', R, Same.refl _ _, Mp.le_refl m, hro, a, b, c⟩
    unfold argT at ha
    split at ha
    · rename_i hu
      obtain ⟨b, rfl, hx⟩ := DataW.trod_bool hu ht
      injection hx with hd _; subst hd
      exact stay [.bool b] (VRs.cons (.bool b) (VRs.nil m)) (by unfold ARd; rw [hu]; exact ⟨b, rfl, rfl⟩) rfl
    · rename_i k hu
      obtain ⟨x, rfl, hx, hw⟩ := DataW.trod_int hu ht
      injection hx with hd _; subst hd
      exact stay [.int k x] (VRs.cons (.int k x) (VRs.nil m)) (by unfold ARd; rw [hu]; exact ⟨x, rfl, rfl, hw⟩) rfl
    · rename_i hu
      obtain ⟨s, rfl, hx, hw⟩ := DataW.trod_string hu ht
      injection hx with hd _; subst hd
      exact stay [.string s] (VRs.cons (.string s) (VRs.nil m)) (by unfold ARd; rw [hu]; exact ⟨s, rfl, hw, rfl⟩) rfl
    · rename_i e hu
      simp only [Bool.and_eq_true] at ha
      have hpos : 0 < P.cellsOf e := by
        rcases Nat.lt_or_ge 0 (P.cellsOf e) with h1 | h1
        · exact h1
        · rw [blt_false (by omega)] at ha; cases ha.1
      rcases DataW.trod_slice hu ht with ⟨rfl, hx⟩ | ⟨a, len, cap, elems, rest, k, rfl, rfl, hx, _, hlc, hcm, hlen, hel, _, _⟩
      · injection hx with hd _; subst hd
        exact stay [.slice none 0 0] (VRs.cons .slNil (VRs.nil m)) (by unfold ARd; rw [hu]; exact .inl ⟨rfl, rfl⟩) rfl
      · injection hx with hd _; subst hd
        by_cases hz : len = 0
        · subst hz
          have : elems = [] := List.eq_nil_of_length_eq_zero hlen
          subst this
          exact stay [slE] (VRs.cons (.slEmp a cap) (VRs.nil m)) (by unfold ARd; rw [hu]; exact .inr (.inl ⟨_, rfl, rfl⟩)) rfl
        · have hsz := hpos
          generalize hszd : P.cellsOf e = sz at *
          -- the elements' cells
          have hcell : ∀ i, i < len → ∃ ci y, w.cells? 0 (a.add (i * sz)) sz = some ci ∧ elems[i]? = some y ∧ DataW.trod enc P w 0 (fun _ => true) held k e ci = some y := fun i hi => by
            have h1 := hel i hi
            rw [List.getElem?_eq_getElem (by omega)] at h1
            rw [Option.bind_eq_some_iff] at h1
            obtain ⟨ci, c1, c2⟩ := h1
            exact ⟨ci, _, c1, List.getElem?_eq_getElem (by omega), c2⟩
          obtain ⟨c0, y0, q1, q2, q3⟩ := hcell 0 (by omega)
          have qs := World.cells?_some q1
          have q4 := qs.2.2 0 hsz
          rw [Nat.zero_mul] at q4
          have ea : (a.add 0).add 0 = a := by simp [Addr.add]
          rw [ea, List.getElem?_eq_getElem (by omega)] at q4
          obtain ⟨c, el, fr, hb, hsp⟩ : ∃ c el fr, w.heap[a.block]? = some (.cells c el fr) ∧ a.spot = none := by
            unfold World.cell? at q4
            split at q4
            · rename_i c el fr hb
              refine ⟨c, el, fr, hb, ?_⟩
              cases hs : a.spot with
              | none => rfl
              | some z => rw [hs] at q4; simp at q4
            · cases q4
          obtain ⟨ab, ao, as⟩ := a
          simp only at hsp hb
          subst hsp
          have addn : ∀ x, (⟨ab, ao, none⟩ : Addr).add x = ⟨ab, ao + x, none⟩ := fun x => by unfold Addr.add; split <;> simp_all
          have rdc : ∀ o, w.cell? ⟨ab, o, none⟩ = c[o]? := fun o => cell_at hb
          have at_ : ∀ i, i < len → ∀ ci, w.cells? 0 ((⟨ab, ao, none⟩ : Addr).add (i * sz)) sz = some ci → ci.length = sz ∧ ∀ j, j < sz → c[ao + i * sz + j]? = ci[j]? := fun i hi ci hc => by
            obtain ⟨_, h1, h2⟩ := World.cells?_some hc
            refine ⟨h1, fun j hj => ?_⟩
            have := h2 j hj
            rw [addn, show (⟨ab, ao + i * sz, none⟩ : Addr).add j = ⟨ab, ao + i * sz + j, none⟩ by unfold Addr.add; split <;> simp_all, rdc] at this
            exact this
          -- all of them, as a list
          let css : List (List Value) := (List.range len).map fun i => ((w.cells? 0 ((⟨ab, ao, none⟩ : Addr).add (i * sz)) sz).getD [])
          have hcss : ∀ i, i < len → ∃ ci y, css[i]? = some ci ∧ w.cells? 0 ((⟨ab, ao, none⟩ : Addr).add (i * sz)) sz = some ci ∧ elems[i]? = some y ∧ DataW.trod enc P w 0 (fun _ => true) held k e ci = some y := fun i hi => by
            obtain ⟨ci, y, h1, h2, h3⟩ := hcell i hi
            refine ⟨ci, y, ?_, h1, h2, h3⟩
            simp only [css, List.getElem?_map, List.getElem?_range hi, Option.map_some, h1, Option.getD_some]
          have hlcss : css.length = len := by simp [css]
          let l : List (TypeId × List Value × DataW H) := (List.range len).map fun i => (e, css.getD i [], (elems.map (·.1)).getD i .nil)
          have hl : ∀ i, i < len → ∃ ci y, css[i]? = some ci ∧ elems[i]? = some y ∧ l[i]? = some (e, ci, y.1) ∧ DataW.trod enc P w 0 (fun _ => true) held k e ci = some y := fun i hi => by
            obtain ⟨ci, y, h1, h2, h3, h4⟩ := hcss i hi
            refine ⟨ci, y, h1, h3, ?_, h4⟩
            simp only [l, List.getElem?_map, List.getElem?_range hi, Option.map_some, List.getD_eq_getElem?_getD, h1, h3, Option.getD_some]
          obtain ⟨m1, h1, css', R1, s1, le1, ro1, hlen', hseg⟩ := seg_open (n := n) (fun t cs d h1 h2 m h R hr => open_arg n t cs d h1 h2 m h R hr) l (fun x hx => by
            obtain ⟨i, hi⟩ := List.getElem?_of_mem hx
            have hil : i < len := by
              have := (List.getElem?_eq_some_iff.1 hi).1
              simpa [l] using this
            obtain ⟨ci, y, _, _, h5, h6⟩ := hl i hil
            rw [h5] at hi; injection hi with hi; subst hi
            exact ⟨ha.2, k, y.2, h6⟩) m h R hro
          have hll : l.length = len := by simp [l]
          have each : ∀ i, i < len → ∃ ci c' y, css[i]? = some ci ∧ css'[i]? = some c' ∧ elems[i]? = some y ∧ VRs m1 c' ci ∧ ARd P h1 n e c' y.1 ∧ c'.all Value.oneCell' = true ∧ ci.length = sz := fun i hi => by
            obtain ⟨ci, y, h5, h6, h7, h8⟩ := hl i hi
            obtain ⟨ci2, y2, g1, g2, _, _⟩ := hcss i hi
            rw [h5] at g1; injection g1 with g1; subst g1
            have hc' : css'[i]? = some (css'[i]'(by omega)) := List.getElem?_eq_getElem (by omega)
            obtain ⟨a1, a2, a3⟩ := hseg i _ _ h7 hc'
            exact ⟨ci, _, y, h5, hc', h6, a1, a2, a3, (at_ i hi ci g2).1⟩
          have hl1 : ∀ x ∈ css', x.length = sz := fun x hx => by
            obtain ⟨i, hi⟩ := List.getElem?_of_mem hx
            obtain ⟨ci, c', y, b1, b2, b3, b4, b5, b6, b7⟩ := each i (by have := (List.getElem?_eq_some_iff.1 hi).1; omega)
            rw [b2] at hi; injection hi with hi; subst hi
            rw [b4.1, b7]
          have hl2 : css'.flatten.length = len * sz := by rw [flat_len sz css' hl1, hlen', hll]
          -- the block's cells from there
          have hLast : ao + len * sz ≤ c.size := by
            obtain ⟨ci, y, g1, g2, _, _⟩ := hcss (len - 1) (by omega)
            obtain ⟨b1, b2⟩ := at_ (len - 1) (by omega) ci g2
            have b3 := b2 (sz - 1) (by omega)
            rw [List.getElem?_eq_getElem (by omega)] at b3
            have b4 := (Array.getElem?_eq_some_iff.1 b3).1
            have : (len - 1) * sz + sz = len * sz := by
              conv => rhs; rw [show len = (len - 1) + 1 by omega, Nat.add_mul, Nat.one_mul]
            omega
          have hflat : css.flatten = ((c.toList.drop ao)).take (len * sz) := by
            rw [← hlcss]
            refine flat_take sz css _ (fun i ci hci => ?_) (by rw [hlcss, List.length_drop, Array.length_toList]; omega)
            have hil : i < len := by have := (List.getElem?_eq_some_iff.1 hci).1; omega
            obtain ⟨ci2, y, g1, g2, _, _⟩ := hcss i hil
            rw [g1] at hci; injection hci with hci; subst hci
            obtain ⟨b1, b2⟩ := at_ i hil _ g2
            apply List.ext_getElem?
            intro j
            rw [List.getElem?_take]
            split
            · rename_i hj
              rw [List.drop_drop, List.getElem?_drop, ← b2 j hj, ← Array.getElem?_toList]
            · rw [List.getElem?_eq_none (by omega)]
          have hvr : VRs m1 css'.flatten css.flatten := VRs.flatten _ _ (by omega) (fun i x y hx hy => by
            obtain ⟨ci, c', z, b1, b2, b3, b4, _⟩ := each i (by have := (List.getElem?_eq_some_iff.1 hx).1; omega)
            rw [b2] at hx; rw [b1] at hy; injection hx with hx; injection hy with hy; subst hx; subst hy
            exact b4)
          have hone : css'.flatten.all Value.oneCell' = true := by
            rw [List.all_eq_true]
            intro x hx
            obtain ⟨r, hr, hxr⟩ := List.mem_flatten.1 hx
            obtain ⟨i, hi⟩ := List.getElem?_of_mem hr
            obtain ⟨ci, c', z, b1, b2, b3, b4, b5, b6, _⟩ := each i (by have := (List.getElem?_eq_some_iff.1 hi).1; omega)
            rw [b2] at hi; injection hi with hi; subst hi
            exact List.all_eq_true.1 b6 x hxr
          obtain ⟨R2, F2⟩ := R1.addRo (off := ao) (cs := css'.flatten) hb (ro1 ab) (by omega) (fun i v hv => by
            have hil : i < len * sz := by have := (List.getElem?_eq_some_iff.1 hv).1; omega
            obtain ⟨v', hv', hr⟩ := hvr.get hv
            rw [hflat, List.getElem?_take, if_pos hil, List.getElem?_drop, Array.getElem?_toList] at hv'
            exact ⟨v', hv', hr⟩) (fun i v hv => List.all_eq_true.1 hone v (List.mem_of_getElem? hv))
          have hcap : isOpn cap = false := by
            cases ho : isOpn cap with
            | false => rfl
            | true =>
              have := ble_iff.1 ho
              have : maxLen = 9223372036854775807 := by rfl
              omega
          refine ⟨_, _, [.slice (some ⟨h1.next, 0, none⟩) len cap], R2, s1.trans (Same.push _ _ noS) (fun _ x => x) (fun _ _ x => x), Mp.le_trans le1 F2.le, ?_, ?_, ?_, rfl⟩
          · intro cb ho
            exact ro1 cb (by
              obtain ⟨k', loc, g1, g2, g3⟩ := ho
              obtain ⟨cs2, el2, g4⟩ := g3
              rw [Heap.get_push] at g4
              by_cases hk : k' = h1.next
              · rw [if_pos hk] at g4; cases g4
              · rw [if_neg hk] at g4
                rw [Mp.upd_ne _ _ _ hk] at g1
                exact ⟨k', loc, g1, g2, cs2, el2, g4⟩)
          · refine VRs.cons ?_ (VRs.nil _)
            exact .sl h1.next 0 len cap ⟨ab, ao, c.size, eszOf P el⟩ (Mp.upd_same _ _ _) hcap
          · unfold ARd
            rw [hu]
            refine .inr (.inr ⟨h1.next, cap, css'.flatten, el, elems.map (·.1), rest.map (·.1), by rw [List.length_map, hlen], ?_, hcm, by rw [List.length_map]; omega, rfl, Heap.get_push_new, by rw [hl2, List.length_map, hlen, hszd], ?_⟩)
            · intro hnil
              have := congrArg List.length hnil
              rw [List.length_map, List.length_nil] at this
              omega
            · intro i di hdi
              have hil : i < len := by
                have := (List.getElem?_eq_some_iff.1 hdi).1
                rw [List.length_map] at this; omega
              obtain ⟨ci, c', y, b1, b2, b3, b4, b5, b6, b7⟩ := each i hil
              rw [List.getElem?_map, b3] at hdi
              injection hdi with hdi; subst hdi
              have hc'l : c'.length = sz := by rw [b4.1, b7]
              have hpre : (css'.take i).flatten.length = i * sz := by
                rw [flat_len sz _ (fun x hx => hl1 x (List.mem_of_mem_take hx)), List.length_take, Nat.min_eq_left (by omega)]
              have := flat_seg css' i c' b2
              rw [hpre, hc'l] at this
              rw [hszd, this]
              exact ARd.mono (Same.push _ _ noS) _ _ _ _ b5
    · rename_i fs hu
      simp only [Bool.and_eq_true] at ha
      obtain ⟨ha1, ha2⟩ := ha
      obtain ⟨xs, k, rfl, hx, hl, hxl, hf⟩ := DataW.trod_struct hu ht
      injection hx with hd _; subst hd
      obtain ⟨en, hti, hen⟩ : ∃ en, tiles P 0 fs.toList = some en ∧ en = P.cellsOf t := by
        split at ha1
        · rename_i en hti; exact ⟨en, hti, Nat.eq_of_beq_eq_true ha1⟩
        · cases ha1
      let css : List (List Value) := fs.toList.map fun f => (cs.drop f.offset).take (P.cellsOf f.type)
      let l : List (TypeId × List Value × DataW H) := (List.range fs.size).map fun i => ((fs.getD i default).type, css.getD i [], (xs.map (·.1)).getD i .nil)
      have hlf : fs.toList.length = fs.size := by simp
      have hlg : ∀ (i : Nat) (f : Field), fs[i]? = some f → ∃ y, xs[i]? = some y ∧ css[i]? = some ((cs.drop f.offset).take (P.cellsOf f.type)) ∧ l[i]? = some (f.type, (cs.drop f.offset).take (P.cellsOf f.type), y.1) ∧ DataW.trod enc P w 0 (fun _ => true) held k f.type ((cs.drop f.offset).take (P.cellsOf f.type)) = some y := fun i f hfi => by
        have hi : i < fs.size := (Array.getElem?_eq_some_iff.1 hfi).1
        have h1 := hf i f hfi
        have h2 : xs[i]? = some (xs[i]'(by omega)) := List.getElem?_eq_getElem (by omega)
        have h3 : css[i]? = some ((cs.drop f.offset).take (P.cellsOf f.type)) := by simp only [css, List.getElem?_map, Array.getElem?_toList, hfi, Option.map_some]
        refine ⟨_, h2, h3, ?_, by rw [h1, h2]⟩
        simp only [l, List.getElem?_map, List.getElem?_range hi, Option.map_some, List.getD_eq_getElem?_getD, h3, h2, Option.getD_some, Array.getD_eq_getD_getElem?, hfi]
      have hll : l.length = fs.size := by simp [l]
      obtain ⟨m1, h1, css', R1, s1, le1, ro1, hlen', hseg⟩ := seg_open (n := n) (fun t cs d h1 h2 m h R hr => open_arg n t cs d h1 h2 m h R hr) l (fun x hx => by
        obtain ⟨i, hi⟩ := List.getElem?_of_mem hx
        have hil : i < fs.size := by have := (List.getElem?_eq_some_iff.1 hi).1; omega
        obtain ⟨y, _, _, h5, h6⟩ := hlg i _ (Array.getElem?_eq_getElem hil)
        rw [h5] at hi; injection hi with hi; subst hi
        exact ⟨List.all_eq_true.1 ha2 _ (by simp), k, y.2, h6⟩) m h R hro
      have hlcss : css.length = fs.size := by simp [css]
      have each : ∀ (i : Nat) (f : Field), fs[i]? = some f → ∃ c' y, css[i]? = some ((cs.drop f.offset).take (P.cellsOf f.type)) ∧ css'[i]? = some c' ∧ xs[i]? = some y ∧ VRs m1 c' ((cs.drop f.offset).take (P.cellsOf f.type)) ∧ ARd P h1 n f.type c' y.1 ∧ c'.all Value.oneCell' = true ∧ c'.length = P.cellsOf f.type := fun i f hfi => by
        have hi : i < fs.size := (Array.getElem?_eq_some_iff.1 hfi).1
        obtain ⟨y, b1, b2, b3, b4⟩ := hlg i f hfi
        have hc' : css'[i]? = some (css'[i]'(by omega)) := List.getElem?_eq_getElem (by omega)
        obtain ⟨a1, a2, a3⟩ := hseg i _ _ b3 hc'
        have ho := (tiles_off fs.toList 0 en hti i f (by rw [Array.getElem?_toList]; exact hfi)).2
        refine ⟨_, y, b2, hc', b1, a1, a2, a3, ?_⟩
        rw [a1.1, List.length_take, List.length_drop, hl]; omega
      have hflat : css.flatten = cs := by
        have := tiles_flat (P := P) cs fs.toList 0 en hti
        rw [List.drop_zero, Nat.sub_zero, hen, ← hl, List.take_length] at this
        exact this
      have hvr : VRs m1 css'.flatten cs := by
        rw [← hflat]
        refine VRs.flatten _ _ (by omega) (fun i x y hx hy => ?_)
        have hi : i < fs.size := by have := (List.getElem?_eq_some_iff.1 hx).1; omega
        obtain ⟨c', z, b1, b2, b3, b4, _⟩ := each i _ (Array.getElem?_eq_getElem hi)
        rw [b2] at hx; rw [b1] at hy; injection hx with hx; injection hy with hy; subst hx; subst hy
        exact b4
      refine ⟨m1, h1, css'.flatten, R1, s1, le1, ro1, hvr, ?_, ?_⟩
      · unfold ARd
        rw [hu]
        refine ⟨xs.map (·.1), rfl, by rw [hvr.1, hl], by rw [List.length_map, hxl], fun i f di hfi hdi => ?_⟩
        obtain ⟨c', y, b1, b2, b3, b4, b5, b6, b7⟩ := each i f hfi
        rw [List.getElem?_map, b3] at hdi
        injection hdi with hdi; subst hdi
        have hi : i < fs.size := (Array.getElem?_eq_some_iff.1 hfi).1
        have ho := (tiles_off fs.toList 0 en hti i f (by rw [Array.getElem?_toList]; exact hfi)).1
        have hlens : css'.map List.length = fs.toList.map fun f => P.cellsOf f.type := by
          apply List.ext_getElem?
          intro j
          have hft : fs.toList[j]? = fs[j]? := by simp
          rw [List.getElem?_map, List.getElem?_map, hft]
          by_cases hj : j < fs.size
          · obtain ⟨c2, y2, _, g2, _, _, _, _, g7⟩ := each j _ (Array.getElem?_eq_getElem hj)
            rw [g2, Array.getElem?_eq_getElem hj, Option.map_some, Option.map_some, g7]
          · rw [List.getElem?_eq_none (by omega), Array.getElem?_eq_none (by omega)]; rfl
        have hpre : (css'.take i).flatten.length = f.offset := by
          rw [List.length_flatten, List.map_take, hlens, ← List.map_take, ho, Nat.zero_add]
        have := flat_seg css' i c' b2
        rw [hpre, b7] at this
        rw [this]
        exact b5
      · rw [List.all_eq_true]
        intro x hx
        obtain ⟨r, hr, hxr⟩ := List.mem_flatten.1 hx
        obtain ⟨i, hi⟩ := List.getElem?_of_mem hr
        obtain ⟨c', z, b1, b2, b3, b4, b5, b6, _⟩ := each i _ (Array.getElem?_eq_getElem (by have := (List.getElem?_eq_some_iff.1 hi).1; omega))
        rw [b2] at hi; injection hi with hi; subst hi
        exact List.all_eq_true.1 b6 x hxr
    · rename_i k e hu
      simp only [Bool.and_eq_true] at ha
      obtain ⟨ha1, ha2⟩ := ha
      have hsz0 := Nat.eq_of_beq_eq_true ha1
      obtain ⟨xs, q, rfl, hx, hl, hxl, hf⟩ := trod_arr hu ht
      injection hx with hd _; subst hd
      let css : List (List Value) := (List.range k).map fun i => (cs.drop (i * P.cellsOf e)).take (P.cellsOf e)
      let l : List (TypeId × List Value × DataW H) := (List.range k).map fun i => (e, (cs.drop (i * P.cellsOf e)).take (P.cellsOf e), (xs.map (·.1)).getD i .nil)
      have hlg : ∀ i, i < k → ∃ y, xs[i]? = some y ∧ css[i]? = some ((cs.drop (i * P.cellsOf e)).take (P.cellsOf e)) ∧ l[i]? = some (e, (cs.drop (i * P.cellsOf e)).take (P.cellsOf e), y.1) ∧ DataW.trod enc P w 0 (fun _ => true) held q e ((cs.drop (i * P.cellsOf e)).take (P.cellsOf e)) = some y := fun i hi => by
        have h2 : xs[i]? = some (xs[i]'(by omega)) := List.getElem?_eq_getElem (by omega)
        refine ⟨_, h2, by simp only [css, List.getElem?_map, List.getElem?_range hi, Option.map_some], ?_, by rw [hf i hi, h2]⟩
        simp only [l, List.getElem?_map, List.getElem?_range hi, Option.map_some, List.getD_eq_getElem?_getD, h2, Option.getD_some]
      have hll : l.length = k := by simp [l]
      have hlcss : css.length = k := by simp [css]
      obtain ⟨m1, h1, css', R1, s1, le1, ro1, hlen', hseg⟩ := seg_open (n := n) (fun t cs d h1 h2 m h R hr => open_arg n t cs d h1 h2 m h R hr) l (fun x hx => by
        obtain ⟨i, hi⟩ := List.getElem?_of_mem hx
        have hil : i < k := by have := (List.getElem?_eq_some_iff.1 hi).1; omega
        obtain ⟨y, _, _, h5, h6⟩ := hlg i hil
        rw [h5] at hi; injection hi with hi; subst hi
        exact ⟨ha2, q, y.2, h6⟩) m h R hro
      have each : ∀ i, i < k → ∃ c' y, css[i]? = some ((cs.drop (i * P.cellsOf e)).take (P.cellsOf e)) ∧ css'[i]? = some c' ∧ xs[i]? = some y ∧ VRs m1 c' ((cs.drop (i * P.cellsOf e)).take (P.cellsOf e)) ∧ ARd P h1 n e c' y.1 ∧ c'.all Value.oneCell' = true ∧ c'.length = P.cellsOf e := fun i hi => by
        obtain ⟨y, b1, b2, b3, b4⟩ := hlg i hi
        have hc' : css'[i]? = some (css'[i]'(by omega)) := List.getElem?_eq_getElem (by omega)
        obtain ⟨a1, a2, a3⟩ := hseg i _ _ b3 hc'
        refine ⟨_, y, b2, hc', b1, a1, a2, a3, ?_⟩
        have : (i + 1) * P.cellsOf e ≤ k * P.cellsOf e := Nat.mul_le_mul_right _ hi
        rw [Nat.add_mul, Nat.one_mul] at this
        rw [a1.1, List.length_take, List.length_drop, hl]; omega
      have hflat : css.flatten = cs := by
        have := flat_take (P.cellsOf e) css cs (fun i c hc => by
          have hi : i < k := by have := (List.getElem?_eq_some_iff.1 hc).1; omega
          obtain ⟨_, _, b1, _⟩ := each i hi
          rw [b1] at hc; injection hc with hc; exact hc.symm) (by rw [hlcss, hl]; omega)
        rw [hlcss, ← hsz0, ← hl, List.take_length] at this
        exact this
      have hvr : VRs m1 css'.flatten cs := by
        rw [← hflat]
        refine VRs.flatten _ _ (by omega) (fun i x y hx hy => ?_)
        obtain ⟨c', z, b1, b2, b3, b4, _⟩ := each i (by have := (List.getElem?_eq_some_iff.1 hx).1; omega)
        rw [b2] at hx; rw [b1] at hy; injection hx with hx; injection hy with hy; subst hx; subst hy
        exact b4
      have hl1 : ∀ x ∈ css', x.length = P.cellsOf e := fun x hx => by
        obtain ⟨i, hi⟩ := List.getElem?_of_mem hx
        obtain ⟨c', y, b1, b2, b3, b4, b5, b6, b7⟩ := each i (by have := (List.getElem?_eq_some_iff.1 hi).1; omega)
        rw [b2] at hi; injection hi with hi; subst hi
        exact b7
      refine ⟨m1, h1, css'.flatten, R1, s1, le1, ro1, hvr, ?_, ?_⟩
      · unfold ARd
        rw [hu]
        refine ⟨xs.map (·.1), rfl, by rw [hvr.1, hl], by rw [List.length_map, hxl], fun i di hdi => ?_⟩
        have hi : i < k := by have := (List.getElem?_eq_some_iff.1 hdi).1; rw [List.length_map] at this; omega
        obtain ⟨c', y, b1, b2, b3, b4, b5, b6, b7⟩ := each i hi
        rw [List.getElem?_map, b3] at hdi
        injection hdi with hdi; subst hdi
        have hpre : (css'.take i).flatten.length = i * P.cellsOf e := by
          rw [flat_len _ _ (fun x hx => hl1 x (List.mem_of_mem_take hx)), List.length_take, Nat.min_eq_left (by omega)]
        have := flat_seg css' i c' b2
        rw [hpre, b7] at this
        rw [this]
        exact b5
      · rw [List.all_eq_true]
        intro x hx
        obtain ⟨r, hr, hxr⟩ := List.mem_flatten.1 hx
        obtain ⟨i, hi⟩ := List.getElem?_of_mem hr
        obtain ⟨c', z, b1, b2, b3, b4, b5, b6, _⟩ := each i (by have := (List.getElem?_eq_some_iff.1 hi).1; omega)
        rw [b2] at hi; injection hi with hi; subst hi
        exact List.all_eq_true.1 b6 x hxr
    · cases ha
end
end Go.AM
