/- The abstract machine, part 10: a region whose order Go leaves open, walked once in the text's order. -/
import Derived.Test.YtafnialikielkaaAm9
namespace Go.AM
open Go

def isEff (P : Program) (o : Op) : Bool :=
  match o with
  | .alloc _ | .box _ _ | .buildSlice _ _ _ | .store _ _ _ | .makeSlice _ _ _ => true
  | .call ⟨.builtin .len, _, _⟩ | .call ⟨.builtin .cap, _, _⟩ | .call ⟨.builtin .max, _, _⟩ | .call ⟨.builtin .min, _, _⟩ => false
  | .call _ => true
  | .convert _ d _ => match P.underlying d with
    | some (.slice _) => true
    | _ => false
  | _ => false

theorem isEff_heap {P : Program} {o : Op} {h h' : Heap} {ρ : Operand → Value} {v : Value} (he : isEff P o = false) (ha : aOp P h o ρ = some (v, h')) : h' = h := by
  unfold aOp at ha
  split at ha
  case h_1 => injection ha with ha; injection ha with _ e; exact e.symm
  case h_2 => injection ha with ha; injection ha with _ e; exact e.symm
  case h_3 => split at ha
              · injection ha with ha; injection ha with _ e; exact e.symm
              · cases ha
  case h_4 => simp [isEff] at he
  case h_5 => simp [isEff] at he
  case h_6 => exact (withH_some ha).2
  case h_7 => simp [isEff] at he
  case h_8 => exact (withH_some ha).2
  case h_9 => simp [isEff] at he
  case h_10 => split at ha
               · injection ha with ha; injection ha with _ e; exact e.symm
               · cases ha
  case h_11 => exact (withH_some ha).2
  case h_12 => exact (withH_some ha).2
  case h_13 s d x _ =>
    unfold aConv at ha
    simp only [isEff] at he
    split at ha
    case h_6 hd _ => rw [hd] at he; cases he
    all_goals
      try simp only [Bool.cond_eq_ite] at ha
      repeat' (first | (cases ha; done) | (injection ha with ha; injection ha with _ e; exact e.symm) | split at ha)
  case h_14 => simp [isEff] at he
  case h_15 =>
    simp only [Bool.cond_eq_ite] at ha
    split at ha
    · cases ha
    · exact (withH_some ha).2
  case h_16 => exact (withH_some ha).2
  case h_17 => exact (withH_some ha).2
  case h_18 => exact (withH_some ha).2
  case h_19 => exact (withH_some ha).2
  case h_20 => exact (withH_some ha).2
  case h_21 =>
    unfold aBuiltin at ha
    split at ha
    case h_1 => simp [isEff] at he
    case h_2 => simp [isEff] at he
    all_goals
      repeat' (first | (cases ha; done) | (injection ha with ha; injection ha with _ e; exact e.symm) | split at ha)
  case h_22 => cases ha

theorem isEff_callee {P : Program} {o : Op} {ρ : Operand → Value} (he : isEff P o = false) : aCallee o ρ = none := by
  unfold aCallee
  split
  · simp [isEff] at he
  · rfl

theorem aOp_congr {P : Program} {h : Heap} {o : Op} {ρ ρ' : Operand → Value} (hρ : ∀ x ∈ o.operands, ρ x = ρ' x) : aOp P h o ρ = aOp P h o ρ' := by
  have pairs : ∀ ps : Array (Nat × Operand), (∀ x ∈ (ps.toList.map (·.2)), ρ x = ρ' x) → (ps.toList.map fun p => (p.1, ρ p.2)) = (ps.toList.map fun p => (p.1, ρ' p.2)) := fun ps hp =>
    List.map_congr_left fun p hm => by rw [hp p.2 (List.mem_map.2 ⟨p, hm, rfl⟩)]
  cases o <;> simp only [Op.operands] at hρ <;> simp only [aOp]
  case build t ps => rw [pairs ps fun x hx => hρ x (by simpa using hx)]
  case buildSlice t n ps => rw [pairs ps fun x hx => hρ x (by simpa using hx)]
  case call c =>
    obtain ⟨callee, args, ts⟩ := c
    have hargs : args.toList.map ρ = args.toList.map ρ' := List.map_congr_left fun x hx => hρ x (by simp [Call.operands, Array.mem_toList_iff.1 hx])
    cases callee <;> simp only []
    rw [hargs]
  case slice t x lo hi mx => cases lo <;> cases hi <;> cases mx <;> simp_all
  all_goals (first | rfl | (simp_all; done))

theorem aCallee_congr {o : Op} {ρ ρ' : Operand → Value} (hρ : ∀ x ∈ o.operands, ρ x = ρ' x) : aCallee o ρ = aCallee o ρ' := by
  cases o <;> try rfl
  case call c =>
    obtain ⟨callee, args, ts⟩ := c
    have hargs : args.toList.map ρ = args.toList.map ρ' := List.map_congr_left fun x hx => hρ x (by simp [Op.operands, Call.operands, Array.mem_toList_iff.1 hx])
    cases callee <;> simp only [aCallee]
    rename_i f
    rw [hρ f (by simp [Op.operands, Call.operands]), hargs]

theorem aEval_congr {env env' : List Value} {x : Operand} (h : ∀ t, x = .tmp t → env[t]? = env'[t]?) : aEval env x = aEval env' x := by
  cases x with
  | tmp t => simp [aEval, List.getD_eq_getElem?_getD, h t rfl]
  | _ => rfl

theorem aStep_congr {P : Program} {cf : CallF} {ops : Array Oper} {o : Oper} {env env' : List Value} (h : ∀ t, t ∈ o.looksAt ops → env[t]? = env'[t]?) (hh : Heap) : aStep P cf o env hh = aStep P cf o env' hh := by
  have hx : ∀ x ∈ o.op.operands, aEval env x = aEval env' x := fun x hx => aEval_congr fun t ht => h t (by
    subst ht
    exact List.mem_append_left _ (List.mem_filterMap.2 ⟨.tmp t, by simpa using hx, rfl⟩))
  unfold aStep
  rw [aCallee_congr hx, aOp_congr hx]

theorem aWanted_congr {ops : Array Oper} {o : Oper} {env env' : List Value} (h : ∀ t, t ∈ o.looksAt ops → env[t]? = env'[t]?) : aWanted ops o env = aWanted ops o env' := by
  unfold aWanted
  cases hg : o.guard with
  | none => rfl
  | some gw =>
    obtain ⟨j, want⟩ := gw
    dsimp only
    cases hj : ops[j]? with
    | none => rfl
    | some oj =>
      cases hd : oj.dst with
      | none => simp only [hd]
      | some d =>
        simp only [hd]
        rw [h d (by simp [Oper.looksAt, hg, hj, hd])]

/-- A trace: what each operation did, in the text's order. -/
structure Tr0 (P : Program) (cf : CallF) (ops : Array Oper) (H : Nat → Heap) (E : Nat → List Value) (V : Nat → Value) : Prop where
  step : ∀ i o, ops[i]? = some o → (aWanted ops o (E i) = true → aStep P cf o (E i) (H i) = some (V i, H (i + 1))) ∧ (aWanted ops o (E i) = false → V i = undef ∧ H (i + 1) = H i)
  env : ∀ i o, ops[i]? = some o → E (i + 1) = aPut (E i) o.dst (V i)

def dstOf (ops : Array Oper) (i : Nat) : Option Tmp := (ops[i]?).bind (·.dst)

/-- The slots where only the operations of D are done. -/
def envF (ops : Array Oper) (E0 : List Value) (V : Nat → Value) (D : Nat → Bool) : Nat → List Value
  | 0 => E0
  | k + 1 => bif D k then aPut (envF ops E0 V D k) (dstOf ops k) (V k) else envF ops E0 V D k

theorem aPut_length (env : List Value) (d : Option Tmp) (v : Value) : (aPut env d v).length = env.length := by cases d <;> simp [aPut]
theorem aPut_ne {env : List Value} {d : Option Tmp} {v : Value} {t : Nat} (h : d ≠ some t) : (aPut env d v)[t]? = env[t]? := by
  cases d with
  | none => rfl
  | some d => simp only [aPut]; rw [List.getElem?_set_ne (fun e => h (by rw [e]))]
theorem aPut_eq {env : List Value} {v : Value} {t : Nat} : (aPut env (some t) v)[t]? = if t < env.length then some v else none := by
  simp only [aPut, List.getElem?_set]
  simp

section
variable {ops : Array Oper} {E0 : List Value} {V : Nat → Value} {D D' : Nat → Bool}

theorem envF_length : ∀ k, (envF ops E0 V D k).length = E0.length
  | 0 => rfl
  | k + 1 => by
    simp only [envF]
    cases D k
    · exact envF_length k
    · rw [cond_true, aPut_length]; exact envF_length k

theorem envF_agree (t : Nat) : ∀ k, (∀ i, i < k → dstOf ops i = some t → D i = D' i) → (envF ops E0 V D k)[t]? = (envF ops E0 V D' k)[t]?
  | 0, _ => rfl
  | k + 1, h => by
    have ih := envF_agree t k (fun i hi hd => h i (by omega) hd)
    simp only [envF]
    by_cases hd : dstOf ops k = some t
    · rw [h k (by omega) hd]
      cases D' k with
      | false => exact ih
      | true => simp only [cond_true]; rw [hd, aPut_eq, aPut_eq, envF_length, envF_length]
    · cases D k <;> cases D' k <;> simp only [cond_true, cond_false]
      · exact ih
      · rw [aPut_ne hd]; exact ih
      · rw [aPut_ne hd]; exact ih
      · rw [aPut_ne hd, aPut_ne hd]; exact ih

theorem envF_lt (i : Nat) : ∀ k, i ≤ k → envF ops E0 V (fun j => decide (j < i)) k = envF ops E0 V (fun _ => true) i
  | k, hk => by
    induction k with
    | zero => have : i = 0 := by omega
              subst this; rfl
    | succ k ih =>
      by_cases h : i = k + 1
      · subst h
        have : ∀ n, n ≤ k + 1 → envF ops E0 V (fun j => decide (j < k + 1)) n = envF ops E0 V (fun _ => true) n := by
          intro n
          induction n with
          | zero => intro _; rfl
          | succ n ih2 =>
            intro hn
            simp only [envF]
            rw [show decide (n < k + 1) = true by simp; omega, ih2 (by omega)]
        exact this _ (Nat.le_refl _)
      · simp only [envF]
        rw [show decide (k < i) = false by simp; omega]
        exact ih (by omega)

theorem envF_last (i t : Nat) (hd : dstOf ops i = some t) (hD : D i = true) : ∀ k, i < k → (∀ j, i < j → j < k → D j = true → dstOf ops j ≠ some t) → (envF ops E0 V D k)[t]? = if t < E0.length then some (V i) else none
  | k + 1, hk, h => by
    simp only [envF]
    by_cases e : i = k
    · subst e
      rw [hD, cond_true, hd, aPut_eq, envF_length]
    · have ih := envF_last i t hd hD k (by omega) (fun j h1 h2 h3 => h j h1 (by omega) h3)
      cases hk' : D k with
      | false => exact ih
      | true => rw [cond_true, aPut_ne (h k (by omega) (by omega) hk')]; exact ih
end

/-- For each operation the set of those that stand ahead of it, as a number's bits. -/
def befs : List Oper → List Nat → List Nat
  | [], acc => acc
  | o :: l, acc => befs l (acc ++ [o.after.toList.foldl (fun s e => bif Region.binds .any e then s ||| 2 ^ e.on ||| acc.getD e.on 0 else s) 0])

theorem fold_bits (acc : List Nat) (i : Nat) : ∀ (l : List Edge) (s : Nat), (l.foldl (fun s e => bif Region.binds .any e then s ||| 2 ^ e.on ||| acc.getD e.on 0 else s) s).testBit i = true →
    s.testBit i = true ∨ ∃ e ∈ l, Region.binds .any e = true ∧ (i = e.on ∨ (acc.getD e.on 0).testBit i = true)
  | [], s, h => .inl h
  | e :: l, s, h => by
    rw [List.foldl_cons] at h
    rcases fold_bits acc i l _ h with h1 | ⟨e', he', hb, hr⟩
    · cases hb : Region.binds .any e with
      | false => rw [hb] at h1; exact .inl h1
      | true =>
        rw [hb, cond_true, Nat.testBit_or, Nat.testBit_or, Bool.or_eq_true, Bool.or_eq_true] at h1
        rcases h1 with (h1 | h1) | h1
        · exact .inl h1
        · rw [Nat.testBit_two_pow] at h1
          exact .inr ⟨e, by simp, hb, .inl (by have := of_decide_eq_true h1; omega)⟩
        · exact .inr ⟨e, by simp, hb, .inr h1⟩
    · exact .inr ⟨e', by simp [he'], hb, hr⟩

/-- What the bits are good for. -/
theorem befs_sound (ops : List Oper) (D : Nat → Bool) (closed : ∀ j o, ops[j]? = some o → D j = true → ∀ e ∈ o.after, Region.binds .any e = true → D e.on = true) :
    ∀ (l : List Oper) (pre : List Oper) (acc : List Nat), ops = pre ++ l → acc.length = pre.length →
      (∀ j i, j < acc.length → ∀ o, ops[j]? = some o → (acc.getD j 0).testBit i = true → (∀ e ∈ o.after, Region.binds .any e = true → D e.on = true) → D i = true) →
      (∀ j i, ∀ o, ops[j]? = some o → ((befs l acc).getD j 0).testBit i = true → (∀ e ∈ o.after, Region.binds .any e = true → D e.on = true) → D i = true)
  | [], pre, acc, he, hl, h, j, i, o, ho, hb, hr => by
    simp only [befs] at hb
    have hj : j < acc.length := by
      rcases Nat.lt_or_ge j acc.length with h' | h'
      · exact h'
      · rw [List.getD_eq_getElem?_getD, List.getElem?_eq_none h'] at hb; simp at hb
    exact h j i hj o ho hb hr
  | x :: l, pre, acc, he, hl, h, j, i, o, ho, hb, hr => by
    simp only [befs] at hb
    refine befs_sound ops D closed l (pre ++ [x]) _ (by rw [he]; simp) (by simp [hl]) ?_ j i o ho hb hr
    intro j' i' hj' o' ho' hb' hr'
    rw [List.length_append, List.length_singleton] at hj'
    by_cases hlt : j' < acc.length
    · rw [List.getD_eq_getElem?_getD, List.getElem?_append_left hlt, ← List.getD_eq_getElem?_getD] at hb'
      exact h j' i' hlt o' ho' hb' hr'
    · have hje : j' = acc.length := by omega
      subst hje
      rw [List.getD_eq_getElem?_getD, List.getElem?_append_right (Nat.le_refl _)] at hb'
      simp only [Nat.sub_self, List.getElem?_cons_zero, Option.getD_some] at hb'
      have hx : o' = x := by
        rw [he, hl, List.getElem?_append_right (Nat.le_refl _)] at ho'
        simpa using ho'.symm
      subst hx
      rcases fold_bits acc i' _ _ hb' with h1 | ⟨e, hem, hbe, h2⟩
      · simp at h1
      · have hem' : e ∈ o'.after := by simpa using hem
        have hDe := hr' e hem' hbe
        rcases h2 with rfl | h2
        · exact hDe
        · have hel : e.on < acc.length := by
            rcases Nat.lt_or_ge e.on acc.length with h' | h'
            · exact h'
            · rw [List.getD_eq_getElem?_getD, List.getElem?_eq_none h'] at h2; simp at h2
          have hop : e.on < ops.length := by rw [he, List.length_append]; omega
          exact h e.on i' hel _ (List.getElem?_eq_getElem hop) h2 (closed e.on _ (List.getElem?_eq_getElem hop) hDe)

/-- What is asked of a drawn region's text. -/
def statOK (P : Program) (ops : Array Oper) : Bool :=
  let b := befs ops.toList []
  (List.range ops.size).all fun j => match ops[j]? with
    | none => true
    | some oj => (oj.after.toList.all fun e => bif Region.binds .any e then Nat.blt e.on j else true) &&
      (List.range j).all fun i => match ops[i]? with
        | none => true
        | some oi => (b.getD j 0).testBit i || (oi.apart ops oj && !(isEff P oi.op && isEff P oj.op))

theorem statOK_edge {P : Program} {ops : Array Oper} (hs : statOK P ops = true) {j : Nat} {oj : Oper} (hj : ops[j]? = some oj) : ∀ e ∈ oj.after, Region.binds .any e = true → e.on < j := by
  intro e he hb
  have hjl : j < ops.size := (Array.getElem?_eq_some_iff.1 hj).1
  have h1 := List.all_eq_true.1 hs j (List.mem_range.2 hjl)
  simp only [hj, Bool.and_eq_true] at h1
  have h2 := List.all_eq_true.1 h1.1 e (by simpa using he)
  rw [hb, cond_true] at h2
  rcases Nat.lt_or_ge e.on j with h | h
  · exact h
  · rw [blt_false (by omega)] at h2; cases h2

theorem statOK_pair {P : Program} {ops : Array Oper} (hs : statOK P ops = true) {i j : Nat} {oi oj : Oper} (hi : ops[i]? = some oi) (hj : ops[j]? = some oj) (hij : i < j) :
    ((befs ops.toList []).getD j 0).testBit i = true ∨ (oi.apart ops oj = true ∧ (isEff P oi.op && isEff P oj.op) = false) := by
  have hjl : j < ops.size := (Array.getElem?_eq_some_iff.1 hj).1
  have h1 := List.all_eq_true.1 hs j (List.mem_range.2 hjl)
  simp only [hj, Bool.and_eq_true] at h1
  have h2 := List.all_eq_true.1 h1.2 i (List.mem_range.2 hij)
  simp only [hi, Bool.or_eq_true, Bool.and_eq_true, Bool.not_eq_true'] at h2
  exact h2

/-- Where the first operation stands that acts and is not done. -/
def frA (eff D : Nat → Bool) : Nat → Nat → Nat
  | 0, s => s
  | f + 1, s => if eff s && !D s then s else frA eff D f (s + 1)

theorem frA_spec (eff D : Nat → Bool) : ∀ f s, s ≤ frA eff D f s ∧ frA eff D f s ≤ s + f ∧ (∀ q, s ≤ q → q < frA eff D f s → eff q = true → D q = true) ∧ (frA eff D f s < s + f → eff (frA eff D f s) = true ∧ D (frA eff D f s) = false)
  | 0, s => by simp only [frA]; exact ⟨Nat.le_refl _, Nat.le_refl _, fun q h1 h2 => by omega, fun h => by omega⟩
  | f + 1, s => by
    simp only [frA]
    cases h : eff s && !D s with
    | true =>
      simp only [if_true]
      simp only [Bool.and_eq_true, Bool.not_eq_true'] at h
      exact ⟨Nat.le_refl _, by omega, fun q h1 h2 => by omega, fun _ => h⟩
    | false =>
      simp only [Bool.false_eq_true, if_false]
      obtain ⟨h1, h2, h3, h4⟩ := frA_spec eff D f (s + 1)
      refine ⟨by omega, by omega, fun q hq1 hq2 hq3 => ?_, fun hlt => h4 (by omega)⟩
      by_cases e : q = s
      · subst e
        rw [hq3, Bool.true_and] at h
        simpa using h
      · exact h3 q (by omega) hq2 hq3

section
variable {P : Program} {cf : CallF} {ops : Array Oper} {H : Nat → Heap} {E : Nat → List Value} {V : Nat → Value}

def effAt (P : Program) (ops : Array Oper) (i : Nat) : Bool := match ops[i]? with
  | some o => isEff P o.op
  | none => false

/-- Between operations that act the heap stays. -/
theorem heap_stays (T : Tr0 P cf ops H E V) (i : Nat) : ∀ f, i ≤ f → f ≤ ops.size → H f = H i ∨ ∃ q, i ≤ q ∧ q < f ∧ effAt P ops q = true ∧ H f = H (q + 1)
  | f, hif, hf => by
    induction f with
    | zero => have : i = 0 := by omega
              subst this; exact .inl rfl
    | succ f ih =>
      by_cases he : i = f + 1
      · subst he; exact .inl rfl
      · cases hq : effAt P ops f with
        | true => exact .inr ⟨f, by omega, by omega, hq, rfl⟩
        | false =>
          obtain ⟨o, ho⟩ : ∃ o, ops[f]? = some o := ⟨_, Array.getElem?_eq_getElem (by omega)⟩
          have hst := T.step f o ho
          have hsame : H (f + 1) = H f := by
            cases hw : aWanted ops o (E f) with
            | false => exact (hst.2 hw).2
            | true =>
              have h1 := hst.1 hw
              simp only [effAt, ho] at hq
              unfold aStep at h1
              rw [isEff_callee hq] at h1
              exact isEff_heap hq h1
          rw [hsame]
          rcases ih (by omega) (by omega) with h | ⟨q, a, b, c, d⟩
          · exact .inl h
          · exact .inr ⟨q, a, by omega, c, d⟩

theorem env_full (T : Tr0 P cf ops H E V) : ∀ k, k ≤ ops.size → E k = envF ops (E 0) V (fun _ => true) k
  | 0, _ => rfl
  | k + 1, hk => by
    obtain ⟨o, ho⟩ : ∃ o, ops[k]? = some o := ⟨_, Array.getElem?_eq_getElem (by omega)⟩
    rw [T.env k o ho, env_full T k (by omega)]
    simp [envF, dstOf, ho]

/-- What the readers read stays under what is not ordered beside them. -/
def ReadsOK (P : Program) (ops : Array Oper) (H : Nat → Heap) (E : Nat → List Value) (V : Nat → Value) : Prop :=
  ∀ i q oi oq, ops[i]? = some oi → ops[q]? = some oq → isEff P oi.op = false → aWanted ops oi (E i) = true → isEff P oq.op = true →
    (i < q → ((befs ops.toList []).getD q 0).testBit i = false → ∃ H', aOp P (H (q + 1)) oi.op (aEval (E i)) = some (V i, H')) ∧
    (q < i → ((befs ops.toList []).getD i 0).testBit q = false → ∃ H', aOp P (H q) oi.op (aEval (E i)) = some (V i, H'))

theorem draw_any (CS : CallSim P cf) (T : Tr0 P cf ops H E V) (hs : statOK P ops = true) (hr : ReadsOK P ops H E V) (hok : ∀ (i : Nat) o, ops[i]? = some o → opOK P o.op = true)
    {m0 : Mp} {h0 : Heap} {w0 : World} {Q : Exit → Act → World → Prop} (K : ∀ m' w' a', Rel P m' (H ops.size) w' → ERel m' (E ops.size) a' → Fr m0 h0 w0 m' (H ops.size) w' → Q .normal a' w') :
    ∀ (fuel : Nat) (listed : Array Bool) (m : Mp) (w : World) (a : Act), listed.size = ops.size →
      (∀ j o, ops[j]? = some o → listed.getD j false = true → ∀ e ∈ o.after, Region.binds .any e = true → listed.getD e.on false = true) →
      ((List.range ops.size).filter fun j => !listed.getD j false).length ≤ fuel →
      Rel P m (H (frA (effAt P ops) (fun j => listed.getD j false) ops.size 0)) w → ERel m (envF ops (E 0) V (fun j => listed.getD j false) ops.size) a →
      Fr m0 h0 w0 m (H (frA (effAt P ops) (fun j => listed.getD j false) ops.size 0)) w → wpAny P .any ops Q fuel listed a w := by
  -- what is ready when nothing is
  have done : ∀ (listed : Array Bool) (m : Mp) (w : World) (a : Act), (∀ j, j < ops.size → listed.getD j false = true) →
      Rel P m (H (frA (effAt P ops) (fun j => listed.getD j false) ops.size 0)) w → ERel m (envF ops (E 0) V (fun j => listed.getD j false) ops.size) a →
      Fr m0 h0 w0 m (H (frA (effAt P ops) (fun j => listed.getD j false) ops.size 0)) w → Q .normal a w := by
    intro listed m w a hall R Er F
    obtain ⟨f1, f2, f3, f4⟩ := frA_spec (effAt P ops) (fun j => listed.getD j false) ops.size 0
    have hf : frA (effAt P ops) (fun j => listed.getD j false) ops.size 0 = ops.size := by
      rcases Nat.lt_or_ge (frA (effAt P ops) (fun j => listed.getD j false) ops.size 0) ops.size with h | h
      · have := (f4 (by omega)).2
        rw [hall _ h] at this; cases this
      · omega
    rw [hf] at R F
    have he : envF ops (E 0) V (fun j => listed.getD j false) ops.size = E ops.size := by
      rw [env_full T ops.size (Nat.le_refl _)]
      apply List.ext_getElem?
      intro t
      exact envF_agree t ops.size (fun i hi _ => hall i hi)
    rw [he] at Er
    exact K m w a R Er F
  have hready : ∀ (listed : Array Bool), listed.size = ops.size → (Region.ready .any ops listed = []) → ∀ j, j < ops.size → listed.getD j false = true := by
    intro listed hsz hnil j
    induction j using Nat.strongRecOn with
    | _ j ih =>
      intro hj
      cases hl : listed.getD j false with
      | true => rfl
      | false =>
        exfalso
        obtain ⟨o, ho⟩ : ∃ o, ops[j]? = some o := ⟨_, Array.getElem?_eq_getElem hj⟩
        have : j ∈ Region.ready .any ops listed := by
          rw [mem_ready]
          refine ⟨?_, o, ho, fun e he hb => ?_⟩
          · simp only [Array.getD_eq_getD_getElem?, Array.getElem?_eq_getElem (show j < listed.size by omega), Option.getD_some] at hl ⊢
            exact hl
          · have := statOK_edge hs ho e he hb
            exact ih e.on this (by omega)
        rw [hnil] at this
        cases this
  intro fuel
  induction fuel with
  | zero =>
    intro listed m w a hsz hcl hcnt R Er F
    have hall : ∀ j, j < ops.size → listed.getD j false = true := by
      intro j hj
      cases hl : listed.getD j false with
      | true => rfl
      | false =>
        exfalso
        have hm : j ∈ ((List.range ops.size).filter fun j => !listed.getD j false) := by
          rw [List.mem_filter, List.mem_range]; exact ⟨hj, by rw [hl]; rfl⟩
        rw [List.length_eq_zero_iff.1 (Nat.le_zero.1 hcnt)] at hm
        cases hm
    refine ⟨?_, done listed m w a hall R Er F⟩
    rw [List.eq_nil_iff_forall_not_mem]
    intro j hj
    rw [mem_ready] at hj
    obtain ⟨hj1, o, ho, _⟩ := hj
    have hjl : j < ops.size := (Array.getElem?_eq_some_iff.1 ho).1
    have := hall j hjl
    simp only [Array.getD_eq_getD_getElem?, Array.getElem?_eq_getElem (show j < listed.size by omega), Option.getD_some] at hj1 this
    rw [hj1] at this; cases this
  | succ fuel ih =>
    intro listed m w a hsz hcl hcnt R Er F
    refine ⟨fun hnil => done listed m w a (hready listed hsz hnil) R Er F, fun i hi => ?_⟩
    rw [mem_ready] at hi
    obtain ⟨hi1, o, ho, hedge⟩ := hi
    have hil : i < ops.size := (Array.getElem?_eq_some_iff.1 ho).1
    have hDi : listed.getD i false = false := by
      simp only [Array.getD_eq_getD_getElem?, Array.getElem?_eq_getElem (show i < listed.size by omega), Option.getD_some] at hi1 ⊢
      exact hi1
    -- the set of what is done
    obtain ⟨D, hD⟩ : ∃ D : Nat → Bool, D = fun j => listed.getD j false := ⟨_, rfl⟩
    have hDj : ∀ j, listed.getD j false = D j := fun j => by rw [hD]
    rw [show (fun j => listed.getD j false) = D from hD.symm] at R Er F
    have sound := befs_sound ops.toList D (fun j o' ho' hj e he hb => by rw [← hDj]; exact hcl j o' (by simpa using ho') (by rw [hDj]; exact hj) e he hb) ops.toList [] [] rfl rfl (fun j i hj => by simp at hj)
    have hDi' : D i = false := by rw [← hDj]; exact hDi
    -- ahead of i: done; behind i: not done
    have ahead : ∀ j, ((befs ops.toList []).getD i 0).testBit j = true → D j = true := fun j hb => sound i j o (by simpa using ho) hb (fun e he hbb => by rw [← hDj]; exact hedge e he hbb)
    have behind : ∀ j oj, ops[j]? = some oj → ((befs ops.toList []).getD j 0).testBit i = true → D j = false := fun j oj hj hb => by
      cases hDj' : D j with
      | false => rfl
      | true =>
        have := sound j i oj (by simpa using hj) hb (fun e he hbb => by rw [← hDj]; exact hcl j oj hj (by rw [hDj]; exact hDj') e he hbb)
        rw [hDi'] at this; cases this
    -- the slots that i looks at
    have look : ∀ t, t ∈ o.looksAt ops → (envF ops (E 0) V D ops.size)[t]? = (E i)[t]? := by
      intro t ht
      rw [env_full T i (by omega), ← envF_lt i ops.size (by omega)]
      refine envF_agree t ops.size (fun j hj hd => ?_)
      obtain ⟨oj, hoj⟩ : ∃ oj, ops[j]? = some oj := ⟨_, Array.getElem?_eq_getElem hj⟩
      simp only [dstOf, hoj, Option.bind_some] at hd
      rcases Nat.lt_trichotomy j i with hlt | rfl | hgt
      · rcases statOK_pair hs hoj ho hlt with hb | ⟨hap, _⟩
        · rw [ahead j hb]; simp [hlt]
        · exact absurd ht ((Oper.apart_spec hap).1 t hd)
      · rw [hDi']; simp
      · rcases statOK_pair hs ho hoj hgt with hb | ⟨hap, _⟩
        · rw [behind j oj hoj hb]; simp; omega
        · exact absurd ht ((Oper.apart_spec hap).2.2 t hd)
    -- with i
    obtain ⟨D', hD'⟩ : ∃ D' : Nat → Bool, D' = fun j => (listed.setIfInBounds i true).getD j false := ⟨_, rfl⟩
    have hD'j : ∀ j, D' j = if j = i then true else D j := fun j => by
      rw [hD', ← hDj]
      by_cases e : j = i
      · subst e; simp [show j < listed.size by omega]
      · rw [if_neg e]
        simp only [Array.getD_eq_getD_getElem?]
        rw [Array.getElem?_setIfInBounds_ne (fun x => e x.symm)]
    have envI : envF ops (E 0) V D' ops.size = aPut (envF ops (E 0) V D ops.size) o.dst (V i) := by
      apply List.ext_getElem?
      intro t
      by_cases hd : o.dst = some t
      · rw [hd, aPut_eq, envF_length]
        refine envF_last i t (by simp [dstOf, ho, hd]) (by rw [hD'j]; simp) ops.size hil (fun j hj1 hj2 hj3 hdj => ?_)
        obtain ⟨oj, hoj⟩ : ∃ oj, ops[j]? = some oj := ⟨_, Array.getElem?_eq_getElem hj2⟩
        simp only [dstOf, hoj, Option.bind_some] at hdj
        rw [hD'j, if_neg (by omega)] at hj3
        rcases statOK_pair hs ho hoj hj1 with hb | ⟨hap, _⟩
        · rw [behind j oj hoj hb] at hj3; cases hj3
        · exact (Oper.apart_spec hap).2.1 t hd hdj
      · rw [aPut_ne hd]
        refine envF_agree t ops.size (fun j hj hdj => ?_)
        rw [hD'j]
        by_cases e : j = i
        · subst e; simp [dstOf, ho] at hdj; exact absurd hdj hd
        · rw [if_neg e]
    have hsz' : (listed.setIfInBounds i true).size = ops.size := by simp [hsz]
    have hcl' : ∀ j o', ops[j]? = some o' → (listed.setIfInBounds i true).getD j false = true → ∀ e ∈ o'.after, Region.binds .any e = true → (listed.setIfInBounds i true).getD e.on false = true := by
      intro j o' hj hl e he hb
      have h1 : D' j = true := by rw [hD']; exact hl
      have h2 : D' e.on = true := by
        rw [hD'j] at h1 ⊢
        by_cases ej : j = i
        · subst ej
          rw [ho] at hj; injection hj with hj; subst hj
          have := hedge e he hb
          rw [hDj] at this
          rw [this]; split <;> rfl
        · rw [if_neg ej] at h1
          have := hcl j o' hj (by rw [hDj]; exact h1) e he hb
          rw [hDj] at this
          rw [this]; split <;> rfl
      rw [hD'] at h2; exact h2
    have hcnt' : ((List.range ops.size).filter fun j => !(listed.setIfInBounds i true).getD j false).length ≤ fuel := by
      have hsub : ((List.range ops.size).filter fun j => !(listed.setIfInBounds i true).getD j false) = ((List.range ops.size).filter fun j => !listed.getD j false).erase i := by
        rw [List.Nodup.erase_eq_filter (List.Pairwise.filter _ List.nodup_range), List.filter_filter]
        apply List.filter_congr
        intro j _
        have h1 : (listed.setIfInBounds i true).getD j false = D' j := by rw [hD']
        rw [h1, hDj, hD'j]
        by_cases e : j = i
        · subst e; simp
        · simp [e]
      rw [hsub, List.length_erase_of_mem (by rw [List.mem_filter, List.mem_range]; exact ⟨hil, by rw [hDi]; rfl⟩)]
      omega
    obtain ⟨f1, f2, f3, f4⟩ := frA_spec (effAt P ops) D ops.size 0
    obtain ⟨g1, g2, g3, g4⟩ := frA_spec (effAt P ops) D' ops.size 0
    -- one more round
    have next : ∀ (m' : Mp) (w' : World) (v' : Value), Rel P m' (H (frA (effAt P ops) D' ops.size 0)) w' → VR m' (V i) v' → Fr m (H (frA (effAt P ops) D ops.size 0)) w m' (H (frA (effAt P ops) D' ops.size 0)) w' →
        wpAny P .any ops Q fuel (listed.setIfInBounds i true) (a.put o.dst v') w' := by
      intro m' w' v' R' hv' F'
      have e1 : (fun j => (listed.setIfInBounds i true).getD j false) = D' := hD'.symm
      refine ih _ m' w' _ hsz' hcl' hcnt' (by rw [e1]; exact R') ?_ (by rw [e1]; exact F.trans F')
      rw [e1, envI]
      exact (Er.mono F'.le).put o.dst hv'
    unfold wpOp
    simp only [ho]
    rw [wanted_sim ops o Er, aWanted_congr look]
    have hst := T.step i o ho
    cases heff : isEff P o.op with
    | true =>
      have hei : effAt P ops i = true := by simp [effAt, ho, heff]
      -- the first that is not done is i
      have hfi : frA (effAt P ops) D ops.size 0 = i := by
        have hle : frA (effAt P ops) D ops.size 0 ≤ i := by
          rcases Nat.lt_or_ge i (frA (effAt P ops) D ops.size 0) with h | h
          · have := f3 i (by omega) h hei
            rw [hDi'] at this; cases this
          · exact h
        rcases Nat.lt_or_ge (frA (effAt P ops) D ops.size 0) i with h | h
        · exfalso
          obtain ⟨hef, hDf⟩ := f4 (by omega)
          obtain ⟨of, hof⟩ : ∃ of, ops[frA (effAt P ops) D ops.size 0]? = some of := ⟨_, Array.getElem?_eq_getElem (by omega)⟩
          rcases statOK_pair hs hof ho h with hb | ⟨_, hne⟩
          · rw [ahead _ hb] at hDf; cases hDf
          · simp only [effAt, hof] at hef
            rw [hef, heff] at hne; cases hne
        · omega
      -- behind it the heap is as behind i
      have hgi : H (frA (effAt P ops) D' ops.size 0) = H (i + 1) := by
        have hgt : i + 1 ≤ frA (effAt P ops) D' ops.size 0 := by
          rcases Nat.lt_or_ge i (frA (effAt P ops) D' ops.size 0) with h | h
          · exact h
          · exfalso
            have hlt : frA (effAt P ops) D' ops.size 0 < ops.size := by omega
            obtain ⟨hef, hDg⟩ := g4 (by omega)
            rw [hD'j] at hDg
            by_cases e : frA (effAt P ops) D' ops.size 0 = i
            · rw [if_pos e] at hDg; cases hDg
            · rw [if_neg e] at hDg
              have := f3 _ (by omega) (by rw [hfi]; omega) hef
              rw [hDg] at this; cases this
        rcases heap_stays T (i + 1) _ hgt (by omega) with h | ⟨q, q1, q2, q3, q4⟩
        · exact h
        · exfalso
          have hDq := g3 q (by omega) q2 q3
          rw [hD'j, if_neg (by omega)] at hDq
          obtain ⟨oq, hoq⟩ : ∃ oq, ops[q]? = some oq := ⟨_, Array.getElem?_eq_getElem (by omega)⟩
          simp only [effAt, hoq] at q3
          rcases statOK_pair hs ho hoq (by omega) with hb | ⟨_, hne⟩
          · rw [behind q oq hoq hb] at hDq; cases hDq
          · rw [heff, q3] at hne; cases hne
      rw [hfi] at R F next
      rw [hgi] at next
      cases hw : aWanted ops o (E i) with
      | true =>
        simp only [if_true]
        have h1 := hst.1 hw
        rw [← aStep_congr (cf := cf) look] at h1
        exact .inl (aStep_sim CS R Er (hok i o ho) h1 (fun m' w' v' R' hv' F' => next m' w' v' R' hv' F'))
      | false =>
        simp only [Bool.false_eq_true, if_false]
        obtain ⟨h1, h2⟩ := hst.2 hw
        rw [h1, h2] at next
        exact next m w undef R (VR.undef m) (Fr.refl _ _ _)
    | false =>
      have hei : effAt P ops i = false := by simp [effAt, ho, heff]
      have hgi : frA (effAt P ops) D' ops.size 0 = frA (effAt P ops) D ops.size 0 := by
        have key : ∀ f s, frA (effAt P ops) D' f s = frA (effAt P ops) D f s := by
          intro f
          induction f with
          | zero => intro s; rfl
          | succ f ihf =>
            intro s
            simp only [frA]
            by_cases e : s = i
            · subst e; simp [hei, ihf]
            · rw [hD'j, if_neg e, ihf]
        exact key _ _
      rw [hgi] at next
      cases hw : aWanted ops o (E i) with
      | true =>
        simp only [if_true]
        have h1 := hst.1 hw
        unfold aStep at h1
        rw [isEff_callee heff] at h1
        simp only at h1
        -- the value is the same at the heap as it is now
        have hval : ∃ H', aOp P (H (frA (effAt P ops) D ops.size 0)) o.op (aEval (E i)) = some (V i, H') := by
          rcases Nat.lt_trichotomy i (frA (effAt P ops) D ops.size 0) with hlt | he | hgt
          · rcases heap_stays T i (frA (effAt P ops) D ops.size 0) (by omega) (by omega) with h | ⟨q, q1, q2, q3, q4⟩
            · rw [h]; exact ⟨_, h1⟩
            · have hqi : i < q := by
                rcases Nat.lt_or_ge i q with h | h
                · exact h
                · have : q = i := by omega
                  subst this; rw [hei] at q3; cases q3
              obtain ⟨oq, hoq⟩ : ∃ oq, ops[q]? = some oq := ⟨_, Array.getElem?_eq_getElem (by omega)⟩
              have hDq := f3 q (by omega) q2 q3
              simp only [effAt, hoq] at q3
              rw [q4]
              refine (hr i q o oq ho hoq heff hw q3).1 hqi ?_
              cases hb : ((befs ops.toList []).getD q 0).testBit i with
              | false => rfl
              | true => rw [behind q oq hoq hb] at hDq; cases hDq
          · rw [← he]; exact ⟨_, h1⟩
          · have hlt : frA (effAt P ops) D ops.size 0 < ops.size := by omega
            obtain ⟨hef, hDf⟩ := f4 (by omega)
            obtain ⟨of, hof⟩ : ∃ of, ops[frA (effAt P ops) D ops.size 0]? = some of := ⟨_, Array.getElem?_eq_getElem hlt⟩
            simp only [effAt, hof] at hef
            refine (hr i _ o of ho hof heff hw hef).2 hgt ?_
            cases hb : ((befs ops.toList []).getD i 0).testBit (frA (effAt P ops) D ops.size 0) with
            | false => rfl
            | true => rw [ahead _ hb] at hDf; cases hDf
        obtain ⟨H', hval⟩ := hval
        have hH' := isEff_heap heff hval
        subst hH'
        have h2 : aStep P cf o (envF ops (E 0) V D ops.size) (H (frA (effAt P ops) D ops.size 0)) = some (V i, H (frA (effAt P ops) D ops.size 0)) := by
          rw [aStep_congr (cf := cf) look]
          unfold aStep
          rw [isEff_callee heff]
          exact hval
        exact .inl (aStep_sim CS R Er (hok i o ho) h2 (fun m' w' v' R' hv' F' => next m' w' v' R' hv' F'))
      | false =>
        simp only [Bool.false_eq_true, if_false]
        obtain ⟨h1, h2⟩ := hst.2 hw
        rw [h1] at next
        exact next m w undef R (VR.undef m) (Fr.refl _ _ _)
end
end Go.AM
