/- The abstract machine, part 18: from a contract over the abstract machine to what a row asks; what rows of plain data come to. -/
import Derived.Test.YtanknjpcgceccaaLims4
import Derived.Test.YtanknjpcgceccaaLims6
import Derived.ProofKit

namespace Go.AM
open Go Go.RowKit Go.ChangeShapes
section
variable {H : Type} {enc : TypeId × Value → H} {P : Program} {W W' : World}
theorem val_of_cells {m : Mp} {cs : List Value} {v : Value} (hv : VRs m cs v.cells.toList) (ho : cs.all Value.oneCell' = true) : ∃ a, VR m a v ∧ a.cells.toList = cs := by
  have one : ∀ (u : Value), u.cells = #[u] → VRs m cs u.cells.toList → ∃ a, VR m a u ∧ a.cells.toList = cs := fun u hu hr => by
    rw [hu] at hr
    match cs, hr, ho with
    | [x], hr, ho =>
      refine ⟨x, hr.2 0 x u rfl rfl, ?_⟩
      have hx : x.oneCell' = true := by simpa using ho
      cases x <;> first | rfl | (simp [Value.oneCell'] at hx)
    | [], hr, _ => simp [VRs] at hr
    | _ :: _ :: _, hr, _ => simp [VRs] at hr
  cases v with
  | agg c => exact ⟨.agg cs.toArray, VR.agg' (by simpa [Value.cells] using hv), by simp [Value.cells]⟩
  | _ => exact one _ rfl hv
theorem open_args {n : Nat} : ∀ (ts : List TypeId) (vs : List Value) (ds : List (DataW H)) (ps : List MemPlace), DataW.TrodAll enc P W 0 (fun _ => true) true ts vs ds ps → (∀ t ∈ ts, argT P n t = true) → ∀ m h, Rel P m h W → allRo m h →
    ∃ m' h' as, Rel P m' h' W ∧ Same h h' noS ∧ allRo m' h' ∧ m.le m' ∧ VRs m' as vs ∧ ds.length = ts.length ∧ as.length = ts.length ∧ ∀ (i : Nat) (t : TypeId) (a : Value) (d : DataW H), ts[i]? = some t → as[i]? = some a → ds[i]? = some d → ARd P h' n t a.cells.toList d
  | [], [], [], ps, _, _, m, h, R, hro => ⟨m, h, [], R, Same.refl _ _, hro, Mp.le_refl m, VRs.nil m, rfl, rfl, fun i t a d ht => by simp at ht⟩
  | t :: ts, v :: vs, d :: ds, ps, hp, hT, m, h, R, hro => by
    obtain ⟨p, q, ⟨fuel, h1⟩, h2, _⟩ := hp
    obtain ⟨m1, h1', cs, R1, s1, le1, ro1, v1, a1, o1⟩ := open_arg n t v.cells.toList d ⟨fuel, p, h1⟩ (hT t (by simp)) m h R hro
    obtain ⟨a, ha, hac⟩ := val_of_cells v1 o1
    obtain ⟨m2, h2', as, R2, s2, ro2, le2, v2, l2, l3, hall⟩ := open_args ts vs ds q h2 (fun t ht => hT t (by simp [ht])) m1 h1' R1 ro1
    refine ⟨m2, h2', a :: as, R2, s1.trans s2 (fun _ x => x) (fun _ _ x => x), ro2, Mp.le_trans le1 le2, VRs.cons (ha.mono le2) v2, by simp [l2], by simp [l3], fun i t' a' d' ht ha' hd => ?_⟩
    cases i with
    | zero =>
      simp at ht ha' hd
      subst ht; subst ha'; subst hd
      rw [hac]
      exact ARd.mono s2 _ _ _ _ a1
    | succ i => exact hall i t' a' d' (by simpa using ht) (by simpa using ha') (by simpa using hd)
  | [], _ :: _, _, _, h, _, _, _, _, _ => by simp [DataW.TrodAll] at h
  | [], [], _ :: _, _, h, _, _, _, _, _ => by simp [DataW.TrodAll] at h
  | _ :: _, [], _, _, h, _, _, _, _, _ => by simp [DataW.TrodAll] at h
  | _ :: _, _ :: _, [], _, h, _, _, _, _, _ => by simp [DataW.TrodAll] at h
theorem below_all (hl : laidOutB P = true) (hb : Below W.heap.size W W') : ∀ (ts : List TypeId) (vs : List Value) (ds : List (DataW H)) (ps : List MemPlace), (∀ t ∈ ts, P.readableRec t = true ∧ t < P.types.size) → DataW.TrodAll enc P W 0 (fun _ => true) true ts vs ds ps → (∀ x ∈ ps, x.block < W.heap.size) →
    DataW.TrodAll enc P W' 0 (fun b => decide (b < W.heap.size)) true ts vs ds ps
  | [], [], [], ps, _, h, _ => h
  | t :: ts, v :: vs, d :: ds, ps, hT, ⟨p, q, h1, h2, e⟩, hlt => by
    subst e
    refine ⟨p, q, Below.trod hl (hT t (by simp)).1 (hT t (by simp)).2 h1 hb (fun x hx => hlt x (by simp [hx])), below_all hl hb ts vs ds q (fun t ht => hT t (by simp [ht])) h2 (fun x hx => hlt x (by simp [hx])), rfl⟩
  | [], _ :: _, _, _, _, h, _ => by simp [DataW.TrodAll] at h
  | [], [], _ :: _, _, _, h, _ => by simp [DataW.TrodAll] at h
  | _ :: _, [], _, _, _, h, _ => by simp [DataW.TrodAll] at h
  | _ :: _, _ :: _, [], _, _, h, _ => by simp [DataW.TrodAll] at h
theorem kept_below (hb : Below W.heap.size W W') {may : MemPlace → Prop} : W.keptBut W' may := by
  refine ⟨hb.os, hb.output, fun i hi => ?_⟩
  have := hb.block i hi
  rw [this]
  cases h : W.heap[i]? with
  | none => trivial
  | some o => cases o <;> simp
theorem agg_only {t : TypeId} {c : Array Value} {r : Reach} {base : Nat} (hv : Value.okWide P W r base t (.agg c)) : (∃ fs, P.underlying t = some (.struct fs)) ∨ (∃ n e, P.underlying t = some (.array n e)) := by
  unfold Value.okWide at hv
  split at hv
  · rename_i fs hu; exact .inl ⟨fs, hu⟩
  · rename_i n e hu; exact .inr ⟨n, e, hu⟩
  · unfold Cell.okWide at hv
    split at hv <;> rename_i h1 <;> first | (cases h1) | skip
    all_goals
      unfold Cell.ok at hv
      split at hv <;> rename_i h2 <;> first | (cases h2) | exact hv.elim
theorem law_true {fn : Func} {s : ChangeSpec} {f : FuncId} {args : Array Value} {ds gs : List (DataW H)} {before : List MemPlace} {fresh handsOn : Bool} {tb : TypeId} (G : Good P) (hlaid : laidOutB P = true) (n : Nat) (hglob : P.globals.size = 0)
    {base : Nat} (hval : ∀ (j : Nat) t v, fn.params[j]? = some t → args[j]? = some v → Value.okWide P W .any base t v)
    (hW : DataW.Whole enc P fn.params.toList s.vars false W args.toList ds gs before) (hvars : s.vars = []) (hT : ∀ t ∈ fn.params.toList, argT P n t = true ∧ P.readableRec t = true ∧ t < P.types.size)
    (hres : fn.resultTypes = #[tb]) (hb : P.underlying tb = some .bool) (hs : s.fn H ds = { results := [.lit (.bool true)], args := ds })
    (hcl : ∀ (h : Heap) (as : List Value), as.length = fn.params.toList.length → (∀ (i : Nat) (t : TypeId) (a : Value) (d : DataW H), fn.params.toList[i]? = some t → as[i]? = some a → ds[i]? = some d → ARd P h n t a.cells.toList d) →
      (∀ (i : Nat) (t : TypeId) (c : Array Value), fn.params.toList[i]? = some t → as[i]? = some (.agg c) → (∃ fs, P.underlying t = some (.struct fs)) ∨ (∃ n e, P.underlying t = some (.array n e))) → Cl P f as h fun v _ => v = .bool true) :
    Calls P f args W fun e W' => ∃ v, e = .returned v ∧ s.post enc P fn false fresh handsOn false W args v W' := by
  have hW0 := hW
  obtain ⟨p, q, hA, hV, rfl, hfz, hnd⟩ := hW
  rw [hvars] at hV
  obtain ⟨rfl, rfl⟩ := trodVars_none hV
  have hlt : ∀ x ∈ p, x.block < W.heap.size := fun x hx => hW0.lt x (by simpa using hx)
  have hro0 : allRo (Mp.empty P) (Heap.empty P) := by
    rintro cb ⟨k, loc, hk, _⟩
    unfold Mp.empty at hk
    rw [if_neg (by omega)] at hk; cases hk
  obtain ⟨m, h, as, R, _, ro, _, hv, hl1, hl2, hall⟩ := open_args (n := n) fn.params.toList args.toList ds p hA (fun t ht => (hT t ht).1) _ _ (Rel.empty W (by omega)) hro0
  have hagg : ∀ (i : Nat) (t : TypeId) (c : Array Value), fn.params.toList[i]? = some t → as[i]? = some (.agg c) → (∃ fs, P.underlying t = some (.struct fs)) ∨ (∃ n e, P.underlying t = some (.array n e)) := fun i t c ht ha => by
    obtain ⟨v, hv1, hv2⟩ := hv.get ha
    cases hv2 with
    | agg _ c' _ _ => exact agg_only (hval i t (.agg c') (by simpa using ht) (by simpa using hv1))
  refine (Cl.calls G R hv (hcl h as hl2 hall hagg)).mono ?_
  rintro e w' ⟨v, h', v', m', rfl, rfl, R', hv', F⟩
  have hvt : v' = .bool true := by cases hv'; rfl
  subst hvt
  obtain ⟨b1, b2, b3, b4, b5⟩ := F.below ro
  have hbel : Below W.heap.size W w' := ⟨b1, b2, b3, b4, b5⟩
  refine ⟨_, rfl, ds, [], p ++ [], [], p, [], hW0, ?_, ?_, ?_, kept_below hbel, fun h => by cases h⟩
  · rw [List.append_nil, hs, hres]
    exact trodAll_mk1 (shut_bool hb true)
  · rw [List.append_nil, hs]
    exact below_all hlaid hbel _ _ _ _ (fun t ht => (hT t ht).2) hA hlt
  · rw [List.append_nil, hs, hvars]
    rfl
end
theorem one_of {P : Program} {a v : Value} {t : TypeId} {d : TypeDesc} (hc : a.cells.toList = [v]) (hu : P.underlying t = some d) (h1 : ∀ fs, d ≠ .struct fs) (h2 : ∀ n e, d ≠ .array n e)
    (hag : ∀ c, a = .agg c → (∃ fs, P.underlying t = some (.struct fs)) ∨ (∃ n e, P.underlying t = some (.array n e))) : a = v := by
  cases a with
  | agg c =>
    rcases hag c rfl with ⟨fs, e⟩ | ⟨n, e', e⟩
    · rw [hu] at e; injection e with e; exact absurd e (h1 fs)
    · rw [hu] at e; injection e with e; exact absurd e (h2 n e')
  | _ => simpa [Value.cells] using hc
theorem RowS.row {h : Heap} {v : Value} {α : Type} (g : α → Value) (xs : List α) (r : RowS h 1 v (xs.map fun x => [g x])) : Row h v (xs.map g) := by
  rcases r with ⟨rfl, he⟩ | ⟨he, k, off, c, rfl⟩ | ⟨k, off, cap, cs, el, ro, rfl, hg, h1, h2⟩
  · have : xs = [] := by simpa using he
    subst this; exact .inl ⟨rfl, rfl⟩
  · have : xs = [] := by simpa using he
    subst this; exact .inr (.inl ⟨rfl, k, off, c, rfl⟩)
  · simp only [List.length_map, Nat.one_mul] at h1 h2
    refine .inr (.inr ⟨k, off, cap, cs, el, ro, by simp, hg, by simpa using h1, ?_⟩)
    apply List.ext_getElem?
    intro i
    rw [List.getElem?_take, List.length_map]
    split
    · rename_i hi
      have := congrArg (fun l => l[0]?) (h2 i hi)
      simp only [List.getElem?_take, List.getElem?_drop, Nat.add_zero, List.getElem_map] at this
      rw [List.getElem?_drop, List.getElem?_map, List.getElem?_eq_getElem hi]
      simpa using this
    · rw [List.getElem?_eq_none (by rw [List.length_map]; omega)]
section
variable {H : Type} {P : Program} {h : Heap}
theorem ard_int {n : Nat} {t : TypeId} {k : IntKind} {cs : List Value} {d : DataW H} (hu : P.underlying t = some (.int k)) (r : ARd P h (n + 1) t cs d) : ∃ x, cs = [.int k x] ∧ (Lit.int k x).wf = true := by
  unfold ARd at r
  rw [hu] at r
  obtain ⟨x, a, _, b⟩ := r
  exact ⟨x, a, b⟩
end
end Go.AM

namespace Go.AM
open Go Go.RowKit Go.ChangeShapes
section
variable {H : Type} {enc : TypeId × Value → H} {P : Program} {W : World} {h : Heap}
theorem trodAll_len {b : Bool} {c : Nat → Bool} {n : Nat} : ∀ (ts : List TypeId) (vs : List Value) (ds : List (DataW H)) (ps : List MemPlace), DataW.TrodAll enc P W n c b ts vs ds ps → ds.length = ts.length
  | [], [], [], _, _ => rfl
  | t :: ts, v :: vs, d :: ds, ps, hp => by
    obtain ⟨p, q, _, h2, _⟩ := hp
    simp [trodAll_len ts vs ds q h2]
  | [], _ :: _, _, _, h => by simp [DataW.TrodAll] at h
  | [], [], _ :: _, _, h => by simp [DataW.TrodAll] at h
  | _ :: _, [], _, _, h => by simp [DataW.TrodAll] at h
  | _ :: _, _ :: _, [], _, h => by simp [DataW.TrodAll] at h
end
theorem RowS.to {P : Program} {h : Heap} {t e : TypeId} {i : TypeInfo} {sz : Nat} {v : Value} {rows : List (List Value)} (r : RowS h sz v rows) (hc : ∀ a n c, v = .slice (some a) n c → n ≠ 0 → isOpn c = false ∧ n ≤ c) (hu : P.underlying t = some (.slice e)) (hi : P.info? e = some i) {kd : IntKind} {n : Nat} (hn : n ≤ rows.length) :
    ∃ v', aSlice P h t v none (some (.int kd n)) none = some v' ∧ RowS h sz v' (rows.take n) ∧ (∀ a m c, v' = .slice (some a) m c → m ≠ 0 → ∃ a0 n0 c0, v = .slice (some a0) n0 c0 ∧ n0 ≠ 0 ∧ a.block = a0.block) := by
  have hop0 : isOpn 0 = false := by decide
  -- a row of no length, of a block
  have zero : ∀ k off c, n = 0 → ∃ v', aSlice P h t (.slice (some ⟨k, off, none⟩) 0 c) none (some (.int kd n)) none = some v' ∧ RowS h sz v' (rows.take n) ∧ (∀ a m c, v' = .slice (some a) m c → m ≠ 0 → ∃ a0 n0 c0, v = .slice (some a0) n0 c0 ∧ n0 ≠ 0 ∧ a.block = a0.block) := fun k off c hz => by
    subst hz
    cases ho : isOpn c with
    | true =>
      refine ⟨.slice (some ⟨k, off, none⟩) 0 c, ?_, .inr (.inl ⟨by simp, k, off, c, rfl⟩), fun a m c hv hm => by injection hv with _ e2; exact absurd e2.symm hm⟩
      simp only [aSlice, hu, hi, ho, cond_true, aBoundO]
      rw [bound_nat (Nat.le_refl 0)]
      simp
    | false =>
      refine ⟨_, ?_, .inr (.inl ⟨by simp, k, (bif Nat.beq c 0 then off else off + 0 * i.size), c - 0, rfl⟩), fun a m c hv hm => by injection hv with _ e2; exact absurd e2.symm hm⟩
      simp only [aSlice, hu, hi, ho, cond_false, aBoundO]
      rw [bound_nat (Nat.zero_le c)]
  rcases r with ⟨rfl, rfl⟩ | ⟨rfl, k, off, c, rfl⟩ | ⟨k, off, cap, cs, el, ro, rfl, hg, h1, h2⟩
  · have : n = 0 := by simpa using hn
    subst this
    refine ⟨.slice none 0 0, ?_, .inl ⟨rfl, by simp⟩, fun a m c hv => by cases hv⟩
    simp only [aSlice, hu, hi, hop0, cond_false, aBoundO]
    rw [bound_nat (Nat.le_refl 0)]
  · exact zero k off c (by simpa using hn)
  · by_cases hz : rows.length = 0
    · rw [hz]
      have := zero k off cap (by omega)
      rwa [hz] at this
    · obtain ⟨ho, hcl⟩ := hc _ _ _ rfl hz
      by_cases hn0 : n = 0
      · subst hn0
        refine ⟨_, ?_, .inr (.inl ⟨by simp, k, (bif Nat.beq cap 0 then off else off + 0 * i.size), cap - 0, rfl⟩), fun a m c hv hm => by injection hv with _ e2; exact absurd e2.symm hm⟩
        simp only [aSlice, hu, hi, ho, cond_false, aBoundO]
        rw [bound_nat (Nat.zero_le cap)]
      · have b0 : Nat.beq cap 0 = false := by
          cases hb : Nat.beq cap 0 with
          | false => rfl
          | true => have := Nat.eq_of_beq_eq_true hb; omega
        have hlt : (rows.take n).length = n := by rw [List.length_take]; omega
        have hmul : sz * n ≤ sz * rows.length := Nat.mul_le_mul_left _ hn
        refine ⟨.slice (some ⟨k, off, none⟩) n cap, ?_, .inr (.inr ⟨k, off, cap, cs, el, ro, by rw [hlt], hg, by rw [hlt]; omega, fun j hj => ?_⟩), fun a m c hv hm => ?_⟩
        · simp only [aSlice, hu, hi, ho, cond_false, aBoundO]
          rw [bound_nat (show n ≤ cap by omega)]
          simp only [b0, cond_false, Nat.zero_mul, Nat.add_zero, Nat.sub_zero]
        · rw [hlt] at hj
          rw [List.getElem_take, h2 j (by omega)]
        · injection hv with e1 e2; injection e1 with e1; subst e1
          exact ⟨_, _, _, rfl, hz, rfl⟩
end Go.AM

namespace Go.AM
open Go
abbrev Blk := Nat × List Value × TypeId
structure St (Z : Nat → Prop) (h0 h : Heap) (L : List Blk) : Prop where
  nx : h0.next ≤ h.next
  stay : ∀ j e, h0.get j = some e → Z j → h.get j = some e
  get : ∀ x ∈ L, h.get x.1 = some (.cells x.2.1 x.2.2 false)
  nodup : (L.map (·.1)).Nodup
  off : ∀ x ∈ L, ¬ Z x.1
  low : ∀ j, Z j → j < h0.next
section
variable {Z : Nat → Prop} {h0 h h' : Heap} {L L' : List Blk} {k o : Nat} {cs : List Value} {T : TypeId} {x : Blk}
theorem St.hd (s : St Z h0 h ((k, cs, T) :: L)) : h.get k = some (.cells cs T false) := s.get (k, cs, T) (by simp)
theorem St.lt (s : St Z h0 h L) (hx : x ∈ L) : x.1 < h.next := Heap.get_lt (s.get x hx)
theorem St.ne (s : St Z h0 h (x :: L)) : ∀ y ∈ L, y.1 ≠ x.1 := fun y hy e => by
  have := s.nodup
  simp only [List.map_cons, List.nodup_cons] at this
  exact this.1 (e ▸ List.mem_map.2 ⟨y, hy, rfl⟩)
theorem St.perm (s : St Z h0 h L) (hp : L.Perm L') : St Z h0 h L' :=
  ⟨s.nx, s.stay, fun x hx => s.get x (hp.mem_iff.2 hx), (hp.map _).nodup_iff.1 s.nodup, fun x hx => s.off x (hp.mem_iff.2 hx), s.low⟩
theorem St.tail (s : St Z h0 h (x :: L)) : St Z h0 h L :=
  ⟨s.nx, s.stay, fun y hy => s.get y (by simp [hy]), by have := s.nodup; simp only [List.map_cons, List.nodup_cons] at this; exact this.2, fun y hy => s.off y (by simp [hy]), s.low⟩
theorem St.nil (Z : Nat → Prop) (h : Heap) (hz : ∀ j, Z j → j < h.next) : St Z h h [] :=
  ⟨Nat.le_refl _, fun _ _ e _ => e, by simp, by simp, by simp, hz⟩
theorem St.upd {cs' : List Value} (s : St Z h0 h ((k, cs, T) :: L)) (hs : Same h h' (onlyS k)) (hg : h'.get k = some (.cells cs' T false)) : St Z h0 h' ((k, cs', T) :: L) := by
  refine ⟨Nat.le_trans s.nx hs.1, fun j e he hz => hs.2 j e (s.stay j e he hz) (fun x => s.off (k, cs, T) (by simp) (by have : j = k := x; exact this ▸ hz)), fun y hy => ?_, by simpa using s.nodup, fun y hy => ?_, s.low⟩
  · rcases List.mem_cons.1 hy with rfl | hy
    · exact hg
    · exact hs.2 _ _ (s.get y (by simp [hy])) (s.ne y hy)
  · rcases List.mem_cons.1 hy with rfl | hy
    · exact s.off (k, cs, T) (by simp)
    · exact s.off y (by simp [hy])
theorem St.keep {S : Nat → Prop} (s : St Z h0 h L) (hs : Same h h' S) (h1 : ∀ x ∈ L, ¬ S x.1) (h2 : ∀ j, Z j → ¬ S j) : St Z h0 h' L :=
  ⟨Nat.le_trans s.nx hs.1, fun j e he hz => hs.2 j e (s.stay j e he hz) (h2 j hz), fun y hy => hs.2 _ _ (s.get y hy) (h1 y hy), s.nodup, s.off, s.low⟩
theorem St.same (s : St Z h0 h L) (hs : Same h h' noS) : St Z h0 h' L := s.keep hs (fun _ _ x => x) (fun _ _ x => x)
theorem St.push (s : St Z h0 h L) (cs : List Value) (T : TypeId) : St Z h0 (h.push (.cells cs T false)) ((h.next, cs, T) :: L) := by
  refine ⟨Nat.le_trans s.nx (by simp), fun j e he hz => Heap.get_push_old (s.stay j e he hz), fun y hy => ?_, ?_, fun y hy => ?_, s.low⟩
  · rcases List.mem_cons.1 hy with rfl | hy
    · exact Heap.get_push_new
    · exact Heap.get_push_old (s.get y hy)
  · simp only [List.map_cons, List.nodup_cons]
    refine ⟨fun hm => ?_, s.nodup⟩
    obtain ⟨y, hy, e⟩ := List.mem_map.1 hm
    have := s.lt hy
    omega
  · rcases List.mem_cons.1 hy with rfl | hy
    · intro hz; have := s.low _ hz; have := s.nx; simp only at *; omega
    · exact s.off y hy
theorem St.stayed {v : Value} {vs : List Value} (s : St Z h0 h L) (r : Row h0 v vs) (hz : ∀ a n c, v = .slice (some a) n c → n ≠ 0 → Z a.block) : Row h v vs := by
  rcases r with r | r | ⟨k, off, cap, cs, el, ro, rfl, hg, h1, h2⟩
  · exact .inl r
  · exact .inr (.inl r)
  · by_cases hn : vs.length = 0
    · have := List.eq_nil_of_length_eq_zero hn
      subst this
      exact .inr (.inl ⟨rfl, k, off, cap, rfl⟩)
    · exact .inr (.inr ⟨k, off, cap, cs, el, ro, rfl, s.stay _ _ hg (hz _ _ _ rfl hn), h1, h2⟩)
theorem St.stayedX {e : TypeId} {v : Value} {vs : List Value} (s : St Z h0 h L) (r : RowX h0 e v vs) (hz : ∀ a n c, v = .slice (some a) n c → n ≠ 0 → Z a.block) : RowX h e v vs := by
  rcases r with r | r | ⟨k, off, cap, cs, el, ro, rfl, hg, h1, h2, h3, h4⟩
  · exact .inl r
  · exact .inr (.inl r)
  · by_cases hn : vs.length = 0
    · have := List.eq_nil_of_length_eq_zero hn
      subst this
      exact .inr (.inl ⟨rfl, k, off, cap, rfl⟩)
    · exact .inr (.inr ⟨k, off, cap, cs, el, ro, rfl, s.stay _ _ hg (hz _ _ _ rfl hn), h1, h2, h3, h4⟩)
section
variable {P : Program}
theorem St.ld {t : TypeId} {d : TypeDesc} (s : St Z h0 h ((k, cs, T) :: L)) (hu : P.underlying t = some d) (h1 : ∀ fs, d ≠ .struct fs) (h2 : ∀ n e, d ≠ .array n e) (o : Nat) : aLoad P h t (.pointer (some ⟨k, o, none⟩)) = cs[o]? := aLoad_at hu h1 h2 s.hd o
theorem St.st {t : TypeId} {i : TypeInfo} {v : Value} (s : St Z h0 h ((k, cs, T) :: L)) (hi : P.info? t = some i) (hs : i.size = 1) (o : Nat) (ho : o < cs.length) (hv : v.cells = #[v]) (h1 : v.oneCell' = true) :
    aStore P h t (.pointer (some ⟨k, o, none⟩)) v = some (h.set k (.cells (cs.set o v) T false)) ∧ St Z h0 (h.set k (.cells (cs.set o v) T false)) ((k, cs.set o v, T) :: L) :=
  ⟨aStore_at hi hs s.hd o ho hv h1, s.upd (Same.set1 _ _ _) (Heap.get_set_eq s.hd)⟩
end
end
section
variable {Z : Nat → Prop} {h0 h : Heap} {L : List Blk} {a b c d : Blk}
theorem St.swap (s : St Z h0 h (a :: b :: L)) : St Z h0 h (b :: a :: L) := s.perm (.swap _ _ _)
theorem St.rot3 (s : St Z h0 h (a :: b :: c :: L)) : St Z h0 h (b :: c :: a :: L) := s.perm ((List.Perm.swap _ _ _).trans ((List.Perm.swap _ _ _).cons _))
theorem St.rot3' (s : St Z h0 h (a :: b :: c :: L)) : St Z h0 h (c :: a :: b :: L) := s.perm (((List.Perm.swap _ _ _).cons _).trans (.swap _ _ _))
theorem St.drop3 (s : St Z h0 h (a :: b :: c :: L)) : St Z h0 h (a :: b :: L) := s.rot3'.tail
end
end Go.AM

namespace Go.AM
open Go
def AllP {α : Type} (p : Nat → α → Prop) : List α → Nat → Prop
  | [], _ => True
  | a :: l, n => p n a ∧ AllP p l (n + 1)
theorem AllP.get {α : Type} {p : Nat → α → Prop} : ∀ (l : List α) (n : Nat), AllP p l n → ∀ i r, l[i]? = some r → p (n + i) r
  | [], _, _, i, r, h => by simp at h
  | a :: l, n, h, 0, r, hr => by simp at hr; subst hr; exact h.1
  | a :: l, n, h, i + 1, r, hr => by
    have := AllP.get l (n + 1) h.2 i r (by simpa using hr)
    rwa [show n + 1 + i = n + (i + 1) by omega] at this
def parTwoP (b : List Nat) (i k j : Nat) (rj : Rec) : Prop := match rj.o.op with
  | .alloc _ => rj.h.next ≠ k ∨ (b.getD i 0).testBit j = true
  | .store _ a _ => j = i ∨ ∃ k' off, aEval rj.env a = .pointer (some ⟨k', off, none⟩) ∧ k' ≠ k
  | _ => True
def parOneP (b : List Nat) (n0 : Nat) (all : List Rec) (i : Nat) (r : Rec) : Prop := match r.o.op with
  | .load _ a => ∃ k off, aEval r.env a = .pointer (some ⟨k, off, none⟩) ∧ k < n0
  | .store _ a _ => ∃ k off, aEval r.env a = .pointer (some ⟨k, off, none⟩) ∧ n0 ≤ k ∧ AllP (parTwoP b i k) all 0
  | _ => True
theorem parTwo_of {b : List Nat} {i k j : Nat} {rj : Rec} (h : parTwoP b i k j rj) : parTwo b i k j rj = true := by
  unfold parTwoP at h
  unfold parTwo
  split at h
  · rename_i hop
    simp only [hop, Bool.or_eq_true]
    rcases h with h | h
    · left
      cases hb : Nat.beq rj.h.next k with
      | true => exact absurd (Nat.eq_of_beq_eq_true hb) h
      | false => rfl
    · exact .inr h
  · rename_i hop
    simp only [hop, Bool.or_eq_true]
    rcases h with h | ⟨k', off, e, hne⟩
    · left; subst h; exact Nat.beq_refl _
    · right
      simp only [e]
      cases hb : Nat.beq k' k with
      | true => exact absurd (Nat.eq_of_beq_eq_true hb) hne
      | false => rfl
  · rename_i h1 h2
    split
    · rename_i hop; exact absurd hop (h1 _)
    · rename_i hop; exact absurd hop (h2 _ _ _)
    · rfl
theorem parOne_of {b : List Nat} {n0 i : Nat} {all : List Rec} {r : Rec} (h : parOneP b n0 all i r) : parOne b n0 all i r = true := by
  unfold parOneP at h
  unfold parOne
  split at h
  · rename_i hop
    obtain ⟨k, off, e, hk⟩ := h
    simp only [hop, e]
    exact blt_true hk
  · rename_i hop
    obtain ⟨k, off, e, hk, h2⟩ := h
    simp only [hop, e, Bool.and_eq_true]
    refine ⟨ble_iff.2 hk, List.all_eq_true.2 fun j _ => ?_⟩
    cases hj : all[j]? with
    | none => rfl
    | some rj =>
      have := AllP.get _ _ h2 j rj hj
      rw [Nat.zero_add] at this
      exact parTwo_of this
  · rename_i h1 h2
    split
    · rename_i hop; exact absurd hop (h1 _ _)
    · rename_i hop; exact absurd hop (h2 _ _ _)
    · rfl
theorem parCheck_of {b : List Nat} {n0 : Nat} {recs : List Rec} (h : AllP (parOneP b n0 recs) recs 0) : parCheck b n0 recs = true := by
  unfold parCheck
  refine List.all_eq_true.2 fun i _ => ?_
  cases hi : recs[i]? with
  | none => rfl
  | some r =>
    have := AllP.get _ _ h i r hi
    rw [Nat.zero_add] at this
    exact parOne_of this
section
variable {P : Program} {ops : Array Oper} {Q : AX → List Value → Heap → Prop} {env : List Value} {h : Heap}
theorem Wp.parU {id : Nat} (b : List Nat) (hb : befs ops.toList [] = b) (hw : WDraw P ops (fun recs e h' => AllP (parOneP b h.next recs) recs 0 ∧ Q .normal e h') ops.toList [] env h) (hp : hasPar ops = true := by decide +kernel) : Wp P (.region id ops true) Q env h := by
  subst hb
  refine Wp.parD ?_ hp
  exact WDraw.mono _ _ _ _ (fun r e h' hq _ => ⟨parCheck_of hq.1, hq.2⟩) hw
end
section
variable {P : Program} {ops : Array Oper} {Q : List Rec → List Value → Heap → Prop} {l : List Oper} {acc : List Rec} {env : List Value} {h : Heap} {d : Option Tmp} {ty : TypeId} {ps : String} {af : Array Edge} {g : Option (Nat × Bool)}
theorem WD1_alloc {e : TypeId} : WD1 P ops Q ⟨d, .alloc e, ty, ps, af, g⟩ l acc env h = DH P ops Q l acc ⟨d, .alloc e, ty, ps, af, g⟩ env h (aAlloc P h e) := (WD1_op rfl)
theorem WD1_store {t : TypeId} {a x : Operand} : WD1 P ops Q ⟨d, .store t a x, ty, ps, af, g⟩ l acc env h = DH P ops Q l acc ⟨d, .store t a x, ty, ps, af, g⟩ env h ((aStore P h t (aEval env a) (aEval env x)).map fun h' => (undef, h')) := by
  rw [WD1_op rfl]
  simp only [aOp]
  cases aStore P h t (aEval env a) (aEval env x) <;> rfl
end
end Go.AM
