/- The abstract machine, part 18: from a contract over the abstract machine to what a row asks; what rows of plain data come to. -/
import Derived.Test.YtafnialikielkaaAm17
import Derived.ProofKit
namespace Go.AM
open Go Go.RowKit Go.ChangeShapes

section
variable {H : Type} {enc : TypeId × Value → H} {P : Program} {W W' : World}

theorem val_of_cells {m : Mp} {cs : List Value} {v : Value} (hv : VRs m cs v.cells.toList) (ho : cs.all Value.oneCell' = true) : ∃ a, VR m a v ∧ a.cells.toList = cs := by
  have one : ∀ (u : Value), u.cells = #[u] → VRs m cs u.cells.toList → ∃ a, VR m a u ∧ a.cells.toList = cs := fun u hu hr => by
    rw [hu] at hr
    match cs, hr, ho with
    | [x], hr, ho =>
      refine ⟨x, hr.2 0 x u rfl rfl, ?_⟩
      have hx : x.oneCell' = true := by simpa using ho
      cases x <;> first | rfl | (simp [Value.oneCell'] at hx)
    | [], hr, _ => simp [VRs] at hr
    | _ :: _ :: _, hr, _ => simp [VRs] at hr
  cases v with
  | agg c => exact ⟨.agg cs.toArray, VR.agg' (by simpa [Value.cells] using hv), by simp [Value.cells]⟩
  | _ => exact one _ rfl hv

/-- All arguments. -/
theorem open_args {n : Nat} : ∀ (ts : List TypeId) (vs : List Value) (ds : List (DataW H)) (ps : List MemPlace), DataW.TrodAll enc P W 0 (fun _ => true) true ts vs ds ps → (∀ t ∈ ts, argT P n t = true) → ∀ m h, Rel P m h W → allRo m h →
    ∃ m' h' as, Rel P m' h' W ∧ Same h h' noS ∧ allRo m' h' ∧ m.le m' ∧ VRs m' as vs ∧ ds.length = ts.length ∧ as.length = ts.length ∧ ∀ (i : Nat) (t : TypeId) (a : Value) (d : DataW H), ts[i]? = some t → as[i]? = some a → ds[i]? = some d → ARd P h' n t a.cells.toList d
  | [], [], [], ps, _, _, m, h, R, hro => ⟨m, h, [], R, Same.refl _ _, hro, Mp.le_refl m, VRs.nil m, rfl, rfl, fun i t a d ht => by simp at ht⟩
  | t :: ts, v :: vs, d :: ds, ps, hp, hT, m, h, R, hro => by
    obtain ⟨p, q, ⟨fuel, h1⟩, h2, _⟩ := hp
    obtain ⟨m1, h1', cs, R1, s1, le1, ro1, v1, a1, o1⟩ := open_arg n t v.cells.toList d ⟨fuel, p, h1⟩ (hT t (by simp)) m h R hro
    obtain ⟨a, ha, hac⟩ := val_of_cells v1 o1
    obtain ⟨m2, h2', as, R2, s2, ro2, le2, v2, l2, l3, hall⟩ := open_args ts vs ds q h2 (fun t ht => hT t (by simp [ht])) m1 h1' R1 ro1
    refine ⟨m2, h2', a :: as, R2, s1.trans s2 (fun _ x => x) (fun _ _ x => x), ro2, Mp.le_trans le1 le2, VRs.cons (ha.mono le2) v2, by simp [l2], by simp [l3], fun i t' a' d' ht ha' hd => ?_⟩
    cases i with
    | zero =>
      simp at ht ha' hd
      subst ht; subst ha'; subst hd
      rw [hac]
      exact ARd.mono s2 _ _ _ _ a1
    | succ i => exact hall i t' a' d' (by simpa using ht) (by simpa using ha') (by simpa using hd)
  | [], _ :: _, _, _, h, _, _, _, _, _ => by simp [DataW.TrodAll] at h
  | [], [], _ :: _, _, h, _, _, _, _, _ => by simp [DataW.TrodAll] at h
  | _ :: _, [], _, _, h, _, _, _, _, _ => by simp [DataW.TrodAll] at h
  | _ :: _, _ :: _, [], _, h, _, _, _, _, _ => by simp [DataW.TrodAll] at h

theorem below_all (hl : laidOutB P = true) (hb : Below W.heap.size W W') : ∀ (ts : List TypeId) (vs : List Value) (ds : List (DataW H)) (ps : List MemPlace), (∀ t ∈ ts, P.readableRec t = true ∧ t < P.types.size) → DataW.TrodAll enc P W 0 (fun _ => true) true ts vs ds ps → (∀ x ∈ ps, x.block < W.heap.size) →
    DataW.TrodAll enc P W' 0 (fun b => decide (b < W.heap.size)) true ts vs ds ps
  | [], [], [], ps, _, h, _ => h
  | t :: ts, v :: vs, d :: ds, ps, hT, ⟨p, q, h1, h2, e⟩, hlt => by
    subst e
    refine ⟨p, q, Below.trod hl (hT t (by simp)).1 (hT t (by simp)).2 h1 hb (fun x hx => hlt x (by simp [hx])), below_all hl hb ts vs ds q (fun t ht => hT t (by simp [ht])) h2 (fun x hx => hlt x (by simp [hx])), rfl⟩
  | [], _ :: _, _, _, _, h, _ => by simp [DataW.TrodAll] at h
  | [], [], _ :: _, _, _, h, _ => by simp [DataW.TrodAll] at h
  | _ :: _, [], _, _, _, h, _ => by simp [DataW.TrodAll] at h
  | _ :: _, _ :: _, [], _, _, h, _ => by simp [DataW.TrodAll] at h

theorem kept_below (hb : Below W.heap.size W W') {may : MemPlace → Prop} : W.keptBut W' may := by
  refine ⟨hb.os, hb.output, fun i hi => ?_⟩
  have := hb.block i hi
  rw [this]
  cases h : W.heap[i]? with
  | none => trivial
  | some o => cases o <;> simp

/-- Only structs and arrays come in as several cells. -/
theorem agg_only {t : TypeId} {c : Array Value} {r : Reach} {base : Nat} (hv : Value.okWide P W r base t (.agg c)) : (∃ fs, P.underlying t = some (.struct fs)) ∨ (∃ n e, P.underlying t = some (.array n e)) := by
  unfold Value.okWide at hv
  split at hv
  · rename_i fs hu; exact .inl ⟨fs, hu⟩
  · rename_i n e hu; exact .inr ⟨n, e, hu⟩
  · unfold Cell.okWide at hv
    split at hv <;> rename_i h1 <;> first | (cases h1) | skip
    all_goals
      unfold Cell.ok at hv
      split at hv <;> rename_i h2 <;> first | (cases h2) | exact hv.elim

/-- A law that answers true and leaves its arguments as they are. -/
theorem law_true {fn : Func} {s : ChangeSpec} {f : FuncId} {args : Array Value} {ds gs : List (DataW H)} {before : List MemPlace} {fresh handsOn : Bool} {tb : TypeId} (G : Good P) (hlaid : laidOutB P = true) (n : Nat) (hglob : P.globals.size = 0)
    {base : Nat} (hval : ∀ (j : Nat) t v, fn.params[j]? = some t → args[j]? = some v → Value.okWide P W .any base t v)
    (hW : DataW.Whole enc P fn.params.toList s.vars false W args.toList ds gs before) (hvars : s.vars = []) (hT : ∀ t ∈ fn.params.toList, argT P n t = true ∧ P.readableRec t = true ∧ t < P.types.size)
    (hres : fn.resultTypes = #[tb]) (hb : P.underlying tb = some .bool) (hs : s.fn H ds = { results := [.lit (.bool true)], args := ds })
    (hcl : ∀ (h : Heap) (as : List Value), as.length = fn.params.toList.length → (∀ (i : Nat) (t : TypeId) (a : Value) (d : DataW H), fn.params.toList[i]? = some t → as[i]? = some a → ds[i]? = some d → ARd P h n t a.cells.toList d) →
      (∀ (i : Nat) (t : TypeId) (c : Array Value), fn.params.toList[i]? = some t → as[i]? = some (.agg c) → (∃ fs, P.underlying t = some (.struct fs)) ∨ (∃ n e, P.underlying t = some (.array n e))) → Cl P f as h fun v _ => v = .bool true) :
    Calls P f args W fun e W' => ∃ v, e = .returned v ∧ s.post enc P fn false fresh handsOn false W args v W' := by
  have hW0 := hW
  obtain ⟨p, q, hA, hV, rfl, hfz, hnd⟩ := hW
  rw [hvars] at hV
  obtain ⟨rfl, rfl⟩ := trodVars_none hV
  have hlt : ∀ x ∈ p, x.block < W.heap.size := fun x hx => hW0.lt x (by simpa using hx)
  have hro0 : allRo (Mp.empty P) (Heap.empty P) := by
    rintro cb ⟨k, loc, hk, _⟩
    unfold Mp.empty at hk
    rw [if_neg (by omega)] at hk; cases hk
  obtain ⟨m, h, as, R, _, ro, _, hv, hl1, hl2, hall⟩ := open_args (n := n) fn.params.toList args.toList ds p hA (fun t ht => (hT t ht).1) _ _ (Rel.empty W (by omega)) hro0
  have hagg : ∀ (i : Nat) (t : TypeId) (c : Array Value), fn.params.toList[i]? = some t → as[i]? = some (.agg c) → (∃ fs, P.underlying t = some (.struct fs)) ∨ (∃ n e, P.underlying t = some (.array n e)) := fun i t c ht ha => by
    obtain ⟨v, hv1, hv2⟩ := hv.get ha
    cases hv2 with
    | agg _ c' _ _ => exact agg_only (hval i t (.agg c') (by simpa using ht) (by simpa using hv1))
  refine (Cl.calls G R hv (hcl h as hl2 hall hagg)).mono ?_
  rintro e w' ⟨v, h', v', m', rfl, rfl, R', hv', F⟩
  have hvt : v' = .bool true := by cases hv'; rfl
  subst hvt
  obtain ⟨b1, b2, b3, b4, b5⟩ := F.below ro
  have hbel : Below W.heap.size W w' := ⟨b1, b2, b3, b4, b5⟩
  refine ⟨_, rfl, ds, [], p ++ [], [], p, [], hW0, ?_, ?_, ?_, kept_below hbel, fun h => by cases h⟩
  · rw [List.append_nil, hs, hres]
    exact trodAll_mk1 (shut_bool hb true)
  · rw [List.append_nil, hs]
    exact below_all hlaid hbel _ _ _ _ (fun t ht => (hT t ht).2) hA hlt
  · rw [List.append_nil, hs, hvars]
    rfl
end

theorem one_of {P : Program} {a v : Value} {t : TypeId} {d : TypeDesc} (hc : a.cells.toList = [v]) (hu : P.underlying t = some d) (h1 : ∀ fs, d ≠ .struct fs) (h2 : ∀ n e, d ≠ .array n e)
    (hag : ∀ c, a = .agg c → (∃ fs, P.underlying t = some (.struct fs)) ∨ (∃ n e, P.underlying t = some (.array n e))) : a = v := by
  cases a with
  | agg c =>
    rcases hag c rfl with ⟨fs, e⟩ | ⟨n, e', e⟩
    · rw [hu] at e; injection e with e; exact absurd e (h1 fs)
    · rw [hu] at e; injection e with e; exact absurd e (h2 n e')
  | _ => simpa [Value.cells] using hc

/-! ### rows of plain data -/
theorem list_lift {α β : Type} (f : α → β) (p : α → Prop) : ∀ rows : List β, (∀ r ∈ rows, ∃ x, r = f x ∧ p x) → ∃ xs : List α, rows = xs.map f ∧ ∀ x ∈ xs, p x
  | [], _ => ⟨[], rfl, by simp⟩
  | r :: rows, h => by
    obtain ⟨x, rfl, hx⟩ := h r (by simp)
    obtain ⟨xs, rfl, hxs⟩ := list_lift f p rows (fun r hr => h r (by simp [hr]))
    exact ⟨x :: xs, rfl, by simpa using ⟨hx, hxs⟩⟩

theorem RowS.row {h : Heap} {v : Value} {α : Type} (g : α → Value) (xs : List α) (r : RowS h 1 v (xs.map fun x => [g x])) : Row h v (xs.map g) := by
  rcases r with ⟨rfl, he⟩ | ⟨he, k, off, c, rfl⟩ | ⟨k, off, cap, cs, el, ro, rfl, hg, h1, h2⟩
  · have : xs = [] := by simpa using he
    subst this; exact .inl ⟨rfl, rfl⟩
  · have : xs = [] := by simpa using he
    subst this; exact .inr (.inl ⟨rfl, k, off, c, rfl⟩)
  · simp only [List.length_map, Nat.one_mul] at h1 h2
    refine .inr (.inr ⟨k, off, cap, cs, el, ro, by simp, hg, by simpa using h1, ?_⟩)
    apply List.ext_getElem?
    intro i
    rw [List.getElem?_take, List.length_map]
    split
    · rename_i hi
      have := congrArg (fun l => l[0]?) (h2 i hi)
      simp only [List.getElem?_take, List.getElem?_drop, Nat.add_zero, List.getElem_map] at this
      rw [List.getElem?_drop, List.getElem?_map, List.getElem?_eq_getElem hi]
      simpa using this
    · rw [List.getElem?_eq_none (by rw [List.length_map]; omega)]

section
variable {H : Type} {P : Program} {h : Heap}

/-- The block of a row that is not empty lies below the heap's end. -/
def inH (h : Heap) (v : Value) : Prop := ∀ a n c, v = .slice (some a) n c → n ≠ 0 → a.block < h.next

theorem ard_slice {n : Nat} {t e : TypeId} {cs : List Value} {d : DataW H} (hu : P.underlying t = some (.slice e)) (r : ARd P h (n + 1) t cs d) :
    ∃ v rows, cs = [v] ∧ RowS h (P.cellsOf e) v rows ∧ inH h v ∧ (∃ a n c, v = .slice a n c) ∧ ∀ r ∈ rows, r.length = P.cellsOf e ∧ ∃ di : DataW H, ARd P h n e r di := by
  unfold ARd at r
  rw [hu] at r
  rcases r with ⟨rfl, _⟩ | ⟨sp, rfl, _⟩ | ⟨k, cap, cells, el, es, sp, rfl, hne, h3, h4, h5, h6, h7, h8⟩
  · exact ⟨_, [], rfl, .inl ⟨rfl, rfl⟩, (by intro a n c hv; cases hv), ⟨_, _, _, rfl⟩, by simp⟩
  · refine ⟨_, [], rfl, .inr (.inl ⟨rfl, 0, 0, _, rfl⟩), ?_, ⟨_, _, _, rfl⟩, by simp⟩
    intro a n c hv hn
    unfold slE at hv
    injection hv with e1 e2 e3
    exact absurd e2.symm hn
  · refine ⟨_, (List.range es.length).map fun i => (cells.drop (i * P.cellsOf e)).take (P.cellsOf e), rfl, .inr (.inr ⟨k, 0, cap, cells, el, true, by simp, h6, by rw [Nat.zero_add, List.length_map, List.length_range, h7, Nat.mul_comm]; omega, fun i hi => ?_⟩), ?_, ⟨_, _, _, rfl⟩, ?_⟩
    · simp [Nat.mul_comm]
    · intro a n c hv _
      injection hv with e1; injection e1 with e1; subst e1
      exact Heap.get_lt h6
    · intro r hr
      obtain ⟨i, hi, rfl⟩ := List.mem_map.1 hr
      have hi' := List.mem_range.1 hi
      have : (i + 1) * P.cellsOf e ≤ es.length * P.cellsOf e := Nat.mul_le_mul_right _ hi'
      rw [Nat.add_mul, Nat.one_mul] at this
      exact ⟨by rw [List.length_take, List.length_drop, h7]; omega, _, h8 i _ (List.getElem?_eq_getElem hi')⟩

theorem ard_int {n : Nat} {t : TypeId} {k : IntKind} {cs : List Value} {d : DataW H} (hu : P.underlying t = some (.int k)) (r : ARd P h (n + 1) t cs d) : ∃ x, cs = [.int k x] ∧ (Lit.int k x).wf = true := by
  unfold ARd at r
  rw [hu] at r
  obtain ⟨x, a, _, b⟩ := r
  exact ⟨x, a, b⟩
theorem ard_bool {n : Nat} {t : TypeId} {cs : List Value} {d : DataW H} (hu : P.underlying t = some .bool) (r : ARd P h (n + 1) t cs d) : ∃ x, cs = [.bool x] := by
  unfold ARd at r
  rw [hu] at r
  obtain ⟨x, a, _⟩ := r
  exact ⟨x, a⟩
theorem ard_ints {n : Nat} {t e : TypeId} {k : IntKind} {cs : List Value} {d : DataW H} (hu : P.underlying t = some (.slice e)) (he : P.underlying e = some (.int k)) (hc : P.cellsOf e = 1) (r : ARd P h (n + 2) t cs d) :
    ∃ (v : Value) (xs : List Int), cs = [v] ∧ Row h v (xs.map (Value.int k)) ∧ inH h v ∧ (∃ a n c, v = .slice a n c) ∧ ∀ x ∈ xs, (Lit.int k x).wf = true := by
  obtain ⟨v, rows, h1, h2, h3, h4, h5⟩ := ard_slice hu r
  rw [hc] at h2
  obtain ⟨xs, rfl, hx⟩ := list_lift (fun x => [Value.int k x]) (fun x => (Lit.int k x).wf = true) rows (fun r hr => by
    obtain ⟨_, di, hd⟩ := h5 r hr
    exact ard_int he hd)
  exact ⟨v, xs, h1, h2.row _ _, h3, h4, hx⟩
theorem ard_bools {n : Nat} {t e : TypeId} {cs : List Value} {d : DataW H} (hu : P.underlying t = some (.slice e)) (he : P.underlying e = some .bool) (hc : P.cellsOf e = 1) (r : ARd P h (n + 2) t cs d) :
    ∃ (v : Value) (xs : List Bool), cs = [v] ∧ Row h v (xs.map Value.bool) ∧ inH h v ∧ (∃ a n c, v = .slice a n c) := by
  obtain ⟨v, rows, h1, h2, h3, h4, h5⟩ := ard_slice hu r
  rw [hc] at h2
  obtain ⟨xs, rfl, hx⟩ := list_lift (fun x => [Value.bool x]) (fun _ => True) rows (fun r hr => by
    obtain ⟨_, di, hd⟩ := h5 r hr
    obtain ⟨x, e⟩ := ard_bool he hd
    exact ⟨x, e, trivial⟩)
  exact ⟨v, xs, h1, h2.row _ _, h3, h4⟩
end
end Go.AM
