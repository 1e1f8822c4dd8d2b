/- The abstract machine, part 9: rows of operations, and one operation as a step of the model's walk. -/
import Derived.Test.YtanknjpcgceccaaLims2
import Derived.Orders

namespace Go.AM
open Go
def aEval (env : List Value) : Operand → Value
  | .tmp t => env.getD t undef
  | .const v => v
  | .global g => .pointer (some ⟨g, 0, none⟩)
  | .func f => .func (.func f) #[] #[]
def aWanted (ops : Array Oper) (o : Oper) (env : List Value) : Bool :=
  match o.guard with
  | none => true
  | some (j, want) => match (match ops[j]? with | some oj => (match oj.dst with | some d => env[d]? | none => none) | none => none) with
    | some (.bool b) => b == want
    | _ => false
def aPut (env : List Value) (dst : Option Tmp) (v : Value) : List Value :=
  match dst with
  | some d => env.set d v
  | none => env
abbrev CallF := FuncId → List Value → Heap → Option (Value × Heap)
def aStep (P : Program) (cf : CallF) (o : Oper) (env : List Value) (h : Heap) : Option (Value × Heap) :=
  match aCallee o.op (aEval env) with
  | some (g, args) => cf g args h
  | none => aOp P h o.op (aEval env)
def aOps (P : Program) (cf : CallF) (ops : Array Oper) : List Nat → List Value → Heap → Option (List Value × Heap)
  | [], env, h => some (env, h)
  | i :: rest, env, h => match ops[i]? with
    | none => aOps P cf ops rest env h
    | some o => bif aWanted ops o env then
        match aStep P cf o env h with
        | some (v, h') => aOps P cf ops rest (aPut env o.dst v) h'
        | none => none
      else aOps P cf ops rest (aPut env o.dst undef) h
def CallSim (P : Program) (cf : CallF) : Prop :=
  ∀ g args h v h', cf g args h = some (v, h') →
    (∃ fn, P.funcs[g]? = some fn ∧ fn.body.isSome = true ∧ (fn.name == "runtime.NumGoroutine") = false) ∧
    ∀ (m : Mp) (w : World) (args' : Array Value), Rel P m h w → VRs m args args'.toList →
      Calls P g args' w fun e w' => ∃ v' m', e = .returned v' ∧ Rel P m' h' w' ∧ VR m' v v' ∧ Fr m h w m' h' w'
structure ERel (m : Mp) (env : List Value) (a : Act) : Prop where
  vs : VRs m env a.tmps.toList
  nodef : a.defers = []
section
variable {P : Program} {m : Mp} {h : Heap} {w : World} {env : List Value} {a : Act}
theorem ERel.mono {m' : Mp} (E : ERel m env a) (hm : m.le m') : ERel m' env a := ⟨E.vs.mono hm, E.nodef⟩
theorem ERel.put (E : ERel m env a) (dst : Option Tmp) {v v' : Value} (hv : VR m v v') : ERel m (aPut env dst v) (a.put dst v') := by
  cases dst with
  | none => exact E
  | some d => exact ⟨by simpa [aPut, Act.put] using E.vs.set hv d, E.nodef⟩
theorem ERel.eval (R : Rel P m h w) (E : ERel m env a) (x : Operand) (hx : opndOK P x = true) : VR m (aEval env x) (a.eval x) := by
  cases x with
  | tmp t =>
    have := E.vs.getD t (VR.undef m)
    simpa [aEval, Act.eval] using this
  | const v => exact VR.plain 6 v hx
  | global g =>
    have hg : g < P.globals.size := by
      simp only [opndOK] at hx
      rcases Nat.lt_or_ge g P.globals.size with h | h
      · exact h
      · rw [blt_false (by omega)] at hx; cases hx
    obtain ⟨loc, h1, h2, h3⟩ := R.glob g hg
    exact VR.ptr0 h1 h3 g h2
  | func f => exact .func _ _ _ _ _ rfl rfl rfl (fun i v v' a _ => by simp at a) (fun i v v' a _ => by simp at a)
theorem wanted_sim (ops : Array Oper) (o : Oper) (E : ERel m env a) : Region.wanted o (yielded ops a.tmps) = aWanted ops o env := by
  unfold Region.wanted aWanted
  cases hgd : o.guard with
  | none => rfl
  | some gw =>
    obtain ⟨j, want⟩ := gw
    dsimp only
    unfold yielded
    cases hj : ops[j]? with
    | none => simp
    | some oj =>
      cases hd : oj.dst with
      | none => simp [hd]
      | some d =>
        simp only [Option.bind_some, hd]
        cases he : env[d]? with
        | none =>
          have : a.tmps[d]? = none := by
            rw [List.getElem?_eq_none_iff] at he
            rw [Array.getElem?_eq_none_iff]
            have := E.vs.1
            simp only [Array.length_toList] at this
            omega
          rw [this]; rfl
        | some v =>
          obtain ⟨v', h1, h2⟩ := E.vs.get he
          rw [Array.getElem?_toList] at h1
          rw [h1]
          cases h2 <;> first | rfl | (rename_i b; cases b <;> cases want <;> rfl)
theorem VRs.arr {l : List Value} {c : Array Value} (hs : l.length = c.size) (h : ∀ (i : Nat) (v v' : Value), l[i]? = some v → c[i]? = some v' → VR m v v') : VRs m l c.toList :=
  ⟨by simpa using hs, fun i v v' a b => h i v v' a (by simpa using b)⟩
theorem callee_sim (R : Rel P m h w) {o : Oper} {ρ ρ' : Operand → Value} {g : FuncId} {args : List Value} (ho : opOK P o.op = true) (hρ : ∀ x, opndOK P x = true → VR m (ρ x) (ρ' x)) (ha : aCallee o.op ρ = some (g, args))
    (hf : ∃ fn, P.funcs[g]? = some fn ∧ fn.body.isSome = true ∧ (fn.name == "runtime.NumGoroutine") = false) :
    ∃ args' : Array Value, VRs m args args'.toList ∧ (execOp ρ' o).run P w = .ok (.enter g args') w := by
  have hall := opndOK_all ho
  unfold aCallee at ha
  split at ha
  · rename_i f as ts hop
    split at ha
    · rename_i g' first cap hfv
      injection ha with ha; injection ha with e1 e2; subst e1; subst e2
      rw [hop] at hall
      have hv := hρ f (hall f (by simp [Op.operands, Call.operands]))
      rw [hfv] at hv
      have hargs := VRs.map hρ as.toList (fun x hx => hall x (by simp [Op.operands, Call.operands, hx]))
      cases hv' : ρ' f <;> rw [hv'] at hv <;> cases hv
      rename_i f' c' hp hf1 hfs hc1 hcs
      obtain ⟨fn, h1, h2, h3⟩ := hf
      refine ⟨f' ++ as.map ρ' ++ c', ?_, ?_⟩
      · simp only [Array.toList_append, Array.toList_map]
        exact (((VRs.arr (by simpa using hf1) (fun i v v' a b => hfs i v v' (by simpa using a) b)).append hargs).append (VRs.arr (by simpa using hc1) (fun i v v' a b => hcs i v v' (by simpa using a) b)))
      · unfold execOp
        rw [hop]
        dsimp only
        have hres : (resolve ρ' ⟨.value f, as, ts⟩ o.type).run P w = .ok { target := .fn (.func g') c', args := f' ++ as.map ρ' } w := by
          unfold resolve
          simp only [hv', Deferred.ofValue]
          rfl
        refine rb hres ?_
        have hb : fn.body.isNone = false := by cases hfb : fn.body <;> simp_all
        simp only [invoke, callFunc]
        refine rb (a := P) (w1 := w) rfl ?_
        simp only [h1, h3, hb]
        rfl
    · cases ha
  · cases ha
theorem aStep_sim {cf : CallF} (CS : CallSim P cf) (R : Rel P m h w) (E : ERel m env a) {o : Oper} (ho : opOK P o.op = true) {v : Value} {h' : Heap} (ha : aStep P cf o env h = some (v, h'))
    {next : Act → World → Prop} {Q : Exit → Act → World → Prop}
    (K : ∀ m' w' v', Rel P m' h' w' → VR m' v v' → Fr m h w m' h' w' → next (a.put o.dst v') w') : o.wp P a w next Q := by
  unfold aStep at ha
  split at ha
  · rename_i g args hc
    obtain ⟨hf, hcall⟩ := CS g args h v h' ha
    obtain ⟨args', hv, hr⟩ := callee_sim R ho (fun x hx => E.eval R x hx) hc hf
    unfold Oper.wp
    rw [hr]
    simp only [Oper.upon]
    refine (hcall m w args' R hv).mono ?_
    rintro e w' ⟨v', m', rfl, R', hv', F⟩
    exact K m' w' v' R' hv' F
  · obtain ⟨nx, v', m', w', hr, hn, R', hv', F⟩ := aOp_sim R ho (fun x hx => E.eval R x hx) ha
    unfold Oper.wp
    rw [hr]
    rcases hn with rfl | ⟨rfl, rfl⟩
    · exact K m' w' v' R' hv' F
    · exact K m' w' undef R' hv' F
theorem aOps_sim {cf : CallF} (CS : CallSim P cf) (ops : Array Oper) (hok : ∀ (i : Nat) o, ops[i]? = some o → opOK P o.op = true) {Q : Exit → Act → World → Prop} :
    ∀ (l : List Nat) (m : Mp) (h : Heap) (w : World) (env : List Value) (a : Act) (env' : List Value) (h' : Heap), Rel P m h w → ERel m env a → aOps P cf ops l env h = some (env', h') →
      (∀ m' w' a', Rel P m' h' w' → ERel m' env' a' → Fr m h w m' h' w' → Q .normal a' w') → wpOps P ops Q l a w
  | [], m, h, w, env, a, env', h', R, E, ha, K => by
    simp only [aOps] at ha; injection ha with ha; injection ha with e1 e2; subst e1; subst e2
    exact K m w a R E (Fr.refl m h w)
  | i :: rest, m, h, w, env, a, env', h', R, E, ha, K => by
    simp only [aOps] at ha
    simp only [wpOps]
    cases hi : ops[i]? with
    | none =>
      rw [hi] at ha
      exact aOps_sim CS ops hok rest m h w env a env' h' R E ha K
    | some o =>
      rw [hi] at ha
      simp only at ha ⊢
      rw [wanted_sim ops o E]
      cases hw : aWanted ops o env with
      | true =>
        rw [hw] at ha
        simp only [cond_true] at ha
        simp only [if_true]
        split at ha
        · rename_i v h1 hs
          refine .inl (aStep_sim CS R E (hok i o hi) hs fun m1 w1 v' R1 hv1 F1 => ?_)
          exact aOps_sim CS ops hok rest m1 h1 w1 _ _ env' h' R1 ((E.mono F1.le).put o.dst hv1) ha fun m2 w2 a2 R2 E2 F2 => K m2 w2 a2 R2 E2 (F1.trans F2)
        · cases ha
      | false =>
        rw [hw] at ha
        simp only [cond_false] at ha
        simp only [Bool.false_eq_true, if_false]
        exact aOps_sim CS ops hok rest m h w _ _ env' h' R (E.put o.dst (VR.undef m)) ha K
end
end Go.AM

namespace Go.AM
open Go
def isEff (P : Program) (o : Op) : Bool :=
  match o with
  | .alloc _ | .box _ _ | .buildSlice _ _ _ | .store _ _ _ | .makeSlice _ _ _ => true
  | .call ⟨.builtin .len, _, _⟩ | .call ⟨.builtin .cap, _, _⟩ | .call ⟨.builtin .max, _, _⟩ | .call ⟨.builtin .min, _, _⟩ => false
  | .call _ => true
  | .convert _ d _ => match P.underlying d with
    | some (.slice _) => true
    | _ => false
  | _ => false
theorem isEff_heap {P : Program} {o : Op} {h h' : Heap} {ρ : Operand → Value} {v : Value} (he : isEff P o = false) (ha : aOp P h o ρ = some (v, h')) : h' = h := by
  unfold aOp at ha
  split at ha
  case h_1 => injection ha with ha; injection ha with _ e; exact e.symm
  case h_2 => injection ha with ha; injection ha with _ e; exact e.symm
  case h_3 => split at ha
              · injection ha with ha; injection ha with _ e; exact e.symm
              · cases ha
  case h_4 => simp [isEff] at he
  case h_5 => simp [isEff] at he
  case h_6 => exact (withH_some ha).2
  case h_7 => simp [isEff] at he
  case h_8 => exact (withH_some ha).2
  case h_9 => simp [isEff] at he
  case h_10 => split at ha
               · injection ha with ha; injection ha with _ e; exact e.symm
               · cases ha
  case h_11 => exact (withH_some ha).2
  case h_12 => exact (withH_some ha).2
  case h_13 s d x _ =>
    unfold aConv at ha
    simp only [isEff] at he
    split at ha
    case h_6 hd _ => rw [hd] at he; cases he
    all_goals
      try simp only [Bool.cond_eq_ite] at ha
      repeat' (first | (cases ha; done) | (injection ha with ha; injection ha with _ e; exact e.symm) | split at ha)
  case h_14 => simp [isEff] at he
  case h_15 =>
    simp only [Bool.cond_eq_ite] at ha
    split at ha
    · cases ha
    · exact (withH_some ha).2
  case h_16 => exact (withH_some ha).2
  case h_17 => exact (withH_some ha).2
  case h_18 => exact (withH_some ha).2
  case h_19 => exact (withH_some ha).2
  case h_20 => exact (withH_some ha).2
  case h_21 =>
    unfold aBuiltin at ha
    split at ha
    case h_1 => simp [isEff] at he
    case h_2 => simp [isEff] at he
    all_goals
      repeat' (first | (cases ha; done) | (injection ha with ha; injection ha with _ e; exact e.symm) | split at ha)
  case h_22 => cases ha
theorem isEff_callee {P : Program} {o : Op} {ρ : Operand → Value} (he : isEff P o = false) : aCallee o ρ = none := by
  unfold aCallee
  split
  · simp [isEff] at he
  · rfl
theorem aOp_congr {P : Program} {h : Heap} {o : Op} {ρ ρ' : Operand → Value} (hρ : ∀ x ∈ o.operands, ρ x = ρ' x) : aOp P h o ρ = aOp P h o ρ' := by
  have pairs : ∀ ps : Array (Nat × Operand), (∀ x ∈ (ps.toList.map (·.2)), ρ x = ρ' x) → (ps.toList.map fun p => (p.1, ρ p.2)) = (ps.toList.map fun p => (p.1, ρ' p.2)) := fun ps hp =>
    List.map_congr_left fun p hm => by rw [hp p.2 (List.mem_map.2 ⟨p, hm, rfl⟩)]
  cases o <;> simp only [Op.operands] at hρ <;> simp only [aOp]
  case build t ps => rw [pairs ps fun x hx => hρ x (by simpa using hx)]
  case buildSlice t n ps => rw [pairs ps fun x hx => hρ x (by simpa using hx)]
  case call c =>
    obtain ⟨callee, args, ts⟩ := c
    have hargs : args.toList.map ρ = args.toList.map ρ' := List.map_congr_left fun x hx => hρ x (by simp [Call.operands, Array.mem_toList_iff.1 hx])
    cases callee <;> simp only []
    rw [hargs]
  case slice t x lo hi mx => cases lo <;> cases hi <;> cases mx <;> simp_all
  all_goals (first | rfl | (simp_all; done))
theorem aCallee_congr {o : Op} {ρ ρ' : Operand → Value} (hρ : ∀ x ∈ o.operands, ρ x = ρ' x) : aCallee o ρ = aCallee o ρ' := by
  cases o <;> try rfl
  case call c =>
    obtain ⟨callee, args, ts⟩ := c
    have hargs : args.toList.map ρ = args.toList.map ρ' := List.map_congr_left fun x hx => hρ x (by simp [Op.operands, Call.operands, Array.mem_toList_iff.1 hx])
    cases callee <;> simp only [aCallee]
    rename_i f
    rw [hρ f (by simp [Op.operands, Call.operands]), hargs]
theorem aEval_congr {env env' : List Value} {x : Operand} (h : ∀ t, x = .tmp t → env[t]? = env'[t]?) : aEval env x = aEval env' x := by
  cases x with
  | tmp t => simp [aEval, List.getD_eq_getElem?_getD, h t rfl]
  | _ => rfl
theorem aStep_congr {P : Program} {cf : CallF} {ops : Array Oper} {o : Oper} {env env' : List Value} (h : ∀ t, t ∈ o.looksAt ops → env[t]? = env'[t]?) (hh : Heap) : aStep P cf o env hh = aStep P cf o env' hh := by
  have hx : ∀ x ∈ o.op.operands, aEval env x = aEval env' x := fun x hx => aEval_congr fun t ht => h t (by
    subst ht
    exact List.mem_append_left _ (List.mem_filterMap.2 ⟨.tmp t, by simpa using hx, rfl⟩))
  unfold aStep
  rw [aCallee_congr hx, aOp_congr hx]
theorem aWanted_congr {ops : Array Oper} {o : Oper} {env env' : List Value} (h : ∀ t, t ∈ o.looksAt ops → env[t]? = env'[t]?) : aWanted ops o env = aWanted ops o env' := by
  unfold aWanted
  cases hg : o.guard with
  | none => rfl
  | some gw =>
    obtain ⟨j, want⟩ := gw
    dsimp only
    cases hj : ops[j]? with
    | none => rfl
    | some oj =>
      cases hd : oj.dst with
      | none => simp only [hd]
      | some d =>
        simp only [hd]
        rw [h d (by simp [Oper.looksAt, hg, hj, hd])]
structure Tr0 (P : Program) (cf : CallF) (ops : Array Oper) (H : Nat → Heap) (E : Nat → List Value) (V : Nat → Value) : Prop where
  step : ∀ i o, ops[i]? = some o → (aWanted ops o (E i) = true → aStep P cf o (E i) (H i) = some (V i, H (i + 1))) ∧ (aWanted ops o (E i) = false → V i = undef ∧ H (i + 1) = H i)
  env : ∀ i o, ops[i]? = some o → E (i + 1) = aPut (E i) o.dst (V i)
def dstOf (ops : Array Oper) (i : Nat) : Option Tmp := (ops[i]?).bind (·.dst)
def envF (ops : Array Oper) (E0 : List Value) (V : Nat → Value) (D : Nat → Bool) : Nat → List Value
  | 0 => E0
  | k + 1 => bif D k then aPut (envF ops E0 V D k) (dstOf ops k) (V k) else envF ops E0 V D k
theorem aPut_length (env : List Value) (d : Option Tmp) (v : Value) : (aPut env d v).length = env.length := by cases d <;> simp [aPut]
theorem aPut_ne {env : List Value} {d : Option Tmp} {v : Value} {t : Nat} (h : d ≠ some t) : (aPut env d v)[t]? = env[t]? := by
  cases d with
  | none => rfl
  | some d => simp only [aPut]; rw [List.getElem?_set_ne (fun e => h (by rw [e]))]
theorem aPut_eq {env : List Value} {v : Value} {t : Nat} : (aPut env (some t) v)[t]? = if t < env.length then some v else none := by
  simp only [aPut, List.getElem?_set]
  simp
section
variable {ops : Array Oper} {E0 : List Value} {V : Nat → Value} {D D' : Nat → Bool}
theorem envF_length : ∀ k, (envF ops E0 V D k).length = E0.length
  | 0 => rfl
  | k + 1 => by
    simp only [envF]
    cases D k
    · exact envF_length k
    · rw [cond_true, aPut_length]; exact envF_length k
theorem envF_agree (t : Nat) : ∀ k, (∀ i, i < k → dstOf ops i = some t → D i = D' i) → (envF ops E0 V D k)[t]? = (envF ops E0 V D' k)[t]?
  | 0, _ => rfl
  | k + 1, h => by
    have ih := envF_agree t k (fun i hi hd => h i (by omega) hd)
    simp only [envF]
    by_cases hd : dstOf ops k = some t
    · rw [h k (by omega) hd]
      cases D' k with
      | false => exact ih
      | true => simp only [cond_true]; rw [hd, aPut_eq, aPut_eq, envF_length, envF_length]
    · cases D k <;> cases D' k <;> simp only [cond_true, cond_false]
      · exact ih
      · rw [aPut_ne hd]; exact ih
      · rw [aPut_ne hd]; exact ih
      · rw [aPut_ne hd, aPut_ne hd]; exact ih
theorem envF_lt (i : Nat) : ∀ k, i ≤ k → envF ops E0 V (fun j => decide (j < i)) k = envF ops E0 V (fun _ => true) i
  | k, hk => by
    induction k with
    | zero => have : i = 0 := by omega
              subst this; rfl
    | succ k ih =>
      by_cases h : i = k + 1
      · subst h
        have : ∀ n, n ≤ k + 1 → envF ops E0 V (fun j => decide (j < k + 1)) n = envF ops E0 V (fun _ => true) n := by
          intro n
          induction n with
          | zero => intro _; rfl
          | succ n ih2 =>
            intro hn
            simp only [envF]
            rw [show decide (n < k + 1) = true by simp; omega, ih2 (by omega)]
        exact this _ (Nat.le_refl _)
      · simp only [envF]
        rw [show decide (k < i) = false by simp; omega]
        exact ih (by omega)
theorem envF_last (i t : Nat) (hd : dstOf ops i = some t) (hD : D i = true) : ∀ k, i < k → (∀ j, i < j → j < k → D j = true → dstOf ops j ≠ some t) → (envF ops E0 V D k)[t]? = if t < E0.length then some (V i) else none
  | k + 1, hk, h => by
    simp only [envF]
    by_cases e : i = k
    · subst e
      rw [hD, cond_true, hd, aPut_eq, envF_length]
    · have ih := envF_last i t hd hD k (by omega) (fun j h1 h2 h3 => h j h1 (by omega) h3)
      cases hk' : D k with
      | false => exact ih
      | true => rw [cond_true, aPut_ne (h k (by omega) (by omega) hk')]; exact ih
end
def befs : List Oper → List Nat → List Nat
  | [], acc => acc
  | o :: l, acc => befs l (acc ++ [o.after.toList.foldl (fun s e => bif Region.binds .any e then s ||| 2 ^ e.on ||| acc.getD e.on 0 else s) 0])
theorem fold_bits (acc : List Nat) (i : Nat) : ∀ (l : List Edge) (s : Nat), (l.foldl (fun s e => bif Region.binds .any e then s ||| 2 ^ e.on ||| acc.getD e.on 0 else s) s).testBit i = true →
    s.testBit i = true ∨ ∃ e ∈ l, Region.binds .any e = true ∧ (i = e.on ∨ (acc.getD e.on 0).testBit i = true)
  | [], s, h => .inl h
  | e :: l, s, h => by
    rw [List.foldl_cons] at h
    rcases fold_bits acc i l _ h with h1 | ⟨e', he', hb, hr⟩
    · cases hb : Region.binds .any e with
      | false => rw [hb] at h1; exact .inl h1
      | true =>
        rw [hb, cond_true, Nat.testBit_or, Nat.testBit_or, Bool.or_eq_true, Bool.or_eq_true] at h1
        rcases h1 with (h1 | h1) | h1
        · exact .inl h1
        · rw [Nat.testBit_two_pow] at h1
          exact .inr ⟨e, by simp, hb, .inl (by have := of_decide_eq_true h1; omega)⟩
        · exact .inr ⟨e, by simp, hb, .inr h1⟩
    · exact .inr ⟨e', by simp [he'], hb, hr⟩
theorem befs_sound (ops : List Oper) (D : Nat → Bool) (closed : ∀ j o, ops[j]? = some o → D j = true → ∀ e ∈ o.after, Region.binds .any e = true → D e.on = true) :
    ∀ (l : List Oper) (pre : List Oper) (acc : List Nat), ops = pre ++ l → acc.length = pre.length →
      (∀ j i, j < acc.length → ∀ o, ops[j]? = some o → (acc.getD j 0).testBit i = true → (∀ e ∈ o.after, Region.binds .any e = true → D e.on = true) → D i = true) →
      (∀ j i, ∀ o, ops[j]? = some o → ((befs l acc).getD j 0).testBit i = true → (∀ e ∈ o.after, Region.binds .any e = true → D e.on = true) → D i = true)
  | [], pre, acc, he, hl, h, j, i, o, ho, hb, hr => by
    simp only [befs] at hb
    have hj : j < acc.length := by
      rcases Nat.lt_or_ge j acc.length with h' | h'
      · exact h'
      · rw [List.getD_eq_getElem?_getD, List.getElem?_eq_none h'] at hb; simp at hb
    exact h j i hj o ho hb hr
  | x :: l, pre, acc, he, hl, h, j, i, o, ho, hb, hr => by
    simp only [befs] at hb
    refine befs_sound ops D closed l (pre ++ [x]) _ (by rw [he]; simp) (by simp [hl]) ?_ j i o ho hb hr
    intro j' i' hj' o' ho' hb' hr'
    rw [List.length_append, List.length_singleton] at hj'
    by_cases hlt : j' < acc.length
    · rw [List.getD_eq_getElem?_getD, List.getElem?_append_left hlt, ← List.getD_eq_getElem?_getD] at hb'
      exact h j' i' hlt o' ho' hb' hr'
    · have hje : j' = acc.length := by omega
      subst hje
      rw [List.getD_eq_getElem?_getD, List.getElem?_append_right (Nat.le_refl _)] at hb'
      simp only [Nat.sub_self, List.getElem?_cons_zero, Option.getD_some] at hb'
      have hx : o' = x := by
        rw [he, hl, List.getElem?_append_right (Nat.le_refl _)] at ho'
        simpa using ho'.symm
      subst hx
      rcases fold_bits acc i' _ _ hb' with h1 | ⟨e, hem, hbe, h2⟩
      · simp at h1
      · have hem' : e ∈ o'.after := by simpa using hem
        have hDe := hr' e hem' hbe
        rcases h2 with rfl | h2
        · exact hDe
        · have hel : e.on < acc.length := by
            rcases Nat.lt_or_ge e.on acc.length with h' | h'
            · exact h'
            · rw [List.getD_eq_getElem?_getD, List.getElem?_eq_none h'] at h2; simp at h2
          have hop : e.on < ops.length := by rw [he, List.length_append]; omega
          exact h e.on i' hel _ (List.getElem?_eq_getElem hop) h2 (closed e.on _ (List.getElem?_eq_getElem hop) hDe)
def statOK (P : Program) (ops : Array Oper) : Bool :=
  let b := befs ops.toList []
  (List.range ops.size).all fun j => match ops[j]? with
    | none => true
    | some oj => (oj.after.toList.all fun e => bif Region.binds .any e then Nat.blt e.on j else true) &&
      (List.range j).all fun i => match ops[i]? with
        | none => true
        | some oi => (b.getD j 0).testBit i || (oi.apart ops oj && !(isEff P oi.op && isEff P oj.op))
theorem statOK_edge {P : Program} {ops : Array Oper} (hs : statOK P ops = true) {j : Nat} {oj : Oper} (hj : ops[j]? = some oj) : ∀ e ∈ oj.after, Region.binds .any e = true → e.on < j := by
  intro e he hb
  have hjl : j < ops.size := (Array.getElem?_eq_some_iff.1 hj).1
  have h1 := List.all_eq_true.1 hs j (List.mem_range.2 hjl)
  simp only [hj, Bool.and_eq_true] at h1
  have h2 := List.all_eq_true.1 h1.1 e (by simpa using he)
  rw [hb, cond_true] at h2
  rcases Nat.lt_or_ge e.on j with h | h
  · exact h
  · rw [blt_false (by omega)] at h2; cases h2
theorem statOK_pair {P : Program} {ops : Array Oper} (hs : statOK P ops = true) {i j : Nat} {oi oj : Oper} (hi : ops[i]? = some oi) (hj : ops[j]? = some oj) (hij : i < j) :
    ((befs ops.toList []).getD j 0).testBit i = true ∨ (oi.apart ops oj = true ∧ (isEff P oi.op && isEff P oj.op) = false) := by
  have hjl : j < ops.size := (Array.getElem?_eq_some_iff.1 hj).1
  have h1 := List.all_eq_true.1 hs j (List.mem_range.2 hjl)
  simp only [hj, Bool.and_eq_true] at h1
  have h2 := List.all_eq_true.1 h1.2 i (List.mem_range.2 hij)
  simp only [hi, Bool.or_eq_true, Bool.and_eq_true, Bool.not_eq_true'] at h2
  exact h2
def frA (eff D : Nat → Bool) : Nat → Nat → Nat
  | 0, s => s
  | f + 1, s => if eff s && !D s then s else frA eff D f (s + 1)
theorem frA_spec (eff D : Nat → Bool) : ∀ f s, s ≤ frA eff D f s ∧ frA eff D f s ≤ s + f ∧ (∀ q, s ≤ q → q < frA eff D f s → eff q = true → D q = true) ∧ (frA eff D f s < s + f → eff (frA eff D f s) = true ∧ D (frA eff D f s) = false)
  | 0, s => by simp only [frA]; exact ⟨Nat.le_refl _, Nat.le_refl _, fun q h1 h2 => by omega, fun h => by omega⟩
  | f + 1, s => by
    simp only [frA]
    cases h : eff s && !D s with
    | true =>
      simp only [if_true]
      simp only [Bool.and_eq_true, Bool.not_eq_true'] at h
      exact ⟨Nat.le_refl _, by omega, fun q h1 h2 => by omega, fun _ => h⟩
    | false =>
      simp only [Bool.false_eq_true, if_false]
      obtain ⟨h1, h2, h3, h4⟩ := frA_spec eff D f (s + 1)
      refine ⟨by omega, by omega, fun q hq1 hq2 hq3 => ?_, fun hlt => h4 (by omega)⟩
      by_cases e : q = s
      · subst e
        rw [hq3, Bool.true_and] at h
        simpa using h
      · exact h3 q (by omega) hq2 hq3
section
variable {P : Program} {cf : CallF} {ops : Array Oper} {H : Nat → Heap} {E : Nat → List Value} {V : Nat → Value}
def effAt (P : Program) (ops : Array Oper) (i : Nat) : Bool := match ops[i]? with
  | some o => isEff P o.op
  | none => false
theorem heap_stays (T : Tr0 P cf ops H E V) (i : Nat) : ∀ f, i ≤ f → f ≤ ops.size → H f = H i ∨ ∃ q, i ≤ q ∧ q < f ∧ effAt P ops q = true ∧ H f = H (q + 1)
  | f, hif, hf => by
    induction f with
    | zero => have : i = 0 := by omega
              subst this; exact .inl rfl
    | succ f ih =>
      by_cases he : i = f + 1
      · subst he; exact .inl rfl
      · cases hq : effAt P ops f with
        | true => exact .inr ⟨f, by omega, by omega, hq, rfl⟩
        | false =>
          obtain ⟨o, ho⟩ : ∃ o, ops[f]? = some o := ⟨_, Array.getElem?_eq_getElem (by omega)⟩
          have hst := T.step f o ho
          have hsame : H (f + 1) = H f := by
            cases hw : aWanted ops o (E f) with
            | false => exact (hst.2 hw).2
            | true =>
              have h1 := hst.1 hw
              simp only [effAt, ho] at hq
              unfold aStep at h1
              rw [isEff_callee hq] at h1
              exact isEff_heap hq h1
          rw [hsame]
          rcases ih (by omega) (by omega) with h | ⟨q, a, b, c, d⟩
          · exact .inl h
          · exact .inr ⟨q, a, by omega, c, d⟩
theorem env_full (T : Tr0 P cf ops H E V) : ∀ k, k ≤ ops.size → E k = envF ops (E 0) V (fun _ => true) k
  | 0, _ => rfl
  | k + 1, hk => by
    obtain ⟨o, ho⟩ : ∃ o, ops[k]? = some o := ⟨_, Array.getElem?_eq_getElem (by omega)⟩
    rw [T.env k o ho, env_full T k (by omega)]
    simp [envF, dstOf, ho]
def ReadsOK (P : Program) (ops : Array Oper) (H : Nat → Heap) (E : Nat → List Value) (V : Nat → Value) : Prop :=
  ∀ i q oi oq, ops[i]? = some oi → ops[q]? = some oq → isEff P oi.op = false → aWanted ops oi (E i) = true → isEff P oq.op = true →
    (i < q → ((befs ops.toList []).getD q 0).testBit i = false → ∃ H', aOp P (H (q + 1)) oi.op (aEval (E i)) = some (V i, H')) ∧
    (q < i → ((befs ops.toList []).getD i 0).testBit q = false → ∃ H', aOp P (H q) oi.op (aEval (E i)) = some (V i, H'))
theorem draw_any (CS : CallSim P cf) (T : Tr0 P cf ops H E V) (hs : statOK P ops = true) (hr : ReadsOK P ops H E V) (hok : ∀ (i : Nat) o, ops[i]? = some o → opOK P o.op = true)
    {m0 : Mp} {h0 : Heap} {w0 : World} {Q : Exit → Act → World → Prop} (K : ∀ m' w' a', Rel P m' (H ops.size) w' → ERel m' (E ops.size) a' → Fr m0 h0 w0 m' (H ops.size) w' → Q .normal a' w') :
    ∀ (fuel : Nat) (listed : Array Bool) (m : Mp) (w : World) (a : Act), listed.size = ops.size →
      (∀ j o, ops[j]? = some o → listed.getD j false = true → ∀ e ∈ o.after, Region.binds .any e = true → listed.getD e.on false = true) →
      ((List.range ops.size).filter fun j => !listed.getD j false).length ≤ fuel →
      Rel P m (H (frA (effAt P ops) (fun j => listed.getD j false) ops.size 0)) w → ERel m (envF ops (E 0) V (fun j => listed.getD j false) ops.size) a →
      Fr m0 h0 w0 m (H (frA (effAt P ops) (fun j => listed.getD j false) ops.size 0)) w → wpAny P .any ops Q fuel listed a w := by
  -- what is ready when nothing is
  have done : ∀ (listed : Array Bool) (m : Mp) (w : World) (a : Act), (∀ j, j < ops.size → listed.getD j false = true) →
      Rel P m (H (frA (effAt P ops) (fun j => listed.getD j false) ops.size 0)) w → ERel m (envF ops (E 0) V (fun j => listed.getD j false) ops.size) a →
      Fr m0 h0 w0 m (H (frA (effAt P ops) (fun j => listed.getD j false) ops.size 0)) w → Q .normal a w := by
    intro listed m w a hall R Er F
    obtain ⟨f1, f2, f3, f4⟩ := frA_spec (effAt P ops) (fun j => listed.getD j false) ops.size 0
    have hf : frA (effAt P ops) (fun j => listed.getD j false) ops.size 0 = ops.size := by
      rcases Nat.lt_or_ge (frA (effAt P ops) (fun j => listed.getD j false) ops.size 0) ops.size with h | h
      · have := (f4 (by omega)).2
        rw [hall _ h] at this; cases this
      · omega
    rw [hf] at R F
    have he : envF ops (E 0) V (fun j => listed.getD j false) ops.size = E ops.size := by
      rw [env_full T ops.size (Nat.le_refl _)]
      apply List.ext_getElem?
      intro t
      exact envF_agree t ops.size (fun i hi _ => hall i hi)
    rw [he] at Er
    exact K m w a R Er F
  have hready : ∀ (listed : Array Bool), listed.size = ops.size → (Region.ready .any ops listed = []) → ∀ j, j < ops.size → listed.getD j false = true := by
    intro listed hsz hnil j
    induction j using Nat.strongRecOn with
    | _ j ih =>
      intro hj
      cases hl : listed.getD j false with
      | true => rfl
      | false =>
        exfalso
        obtain ⟨o, ho⟩ : ∃ o, ops[j]? = some o := ⟨_, Array.getElem?_eq_getElem hj⟩
        have : j ∈ Region.ready .any ops listed := by
          rw [mem_ready]
          refine ⟨?_, o, ho, fun e he hb => ?_⟩
          · simp only [Array.getD_eq_getD_getElem?, Array.getElem?_eq_getElem (show j < listed.size by omega), Option.getD_some] at hl ⊢
            exact hl
          · have := statOK_edge hs ho e he hb
            exact ih e.on this (by omega)
        rw [hnil] at this
        cases this
  intro fuel
  induction fuel with
  | zero =>
    intro listed m w a hsz hcl hcnt R Er F
    have hall : ∀ j, j < ops.size → listed.getD j false = true := by
      intro j hj
      cases hl : listed.getD j false with
      | true => rfl
      | false =>
        exfalso
        have hm : j ∈ ((List.range ops.size).filter fun j => !listed.getD j false) := by
          rw [List.mem_filter, List.mem_range]; exact ⟨hj, by rw [hl]; rfl⟩
        rw [List.length_eq_zero_iff.1 (Nat.le_zero.1 hcnt)] at hm
        cases hm
    refine ⟨?_, done listed m w a hall R Er F⟩
    rw [List.eq_nil_iff_forall_not_mem]
    intro j hj
    rw [mem_ready] at hj
    obtain ⟨hj1, o, ho, _⟩ := hj
    have hjl : j < ops.size := (Array.getElem?_eq_some_iff.1 ho).1
    have := hall j hjl
    simp only [Array.getD_eq_getD_getElem?, Array.getElem?_eq_getElem (show j < listed.size by omega), Option.getD_some] at hj1 this
    rw [hj1] at this; cases this
  | succ fuel ih =>
    intro listed m w a hsz hcl hcnt R Er F
    refine ⟨fun hnil => done listed m w a (hready listed hsz hnil) R Er F, fun i hi => ?_⟩
    rw [mem_ready] at hi
    obtain ⟨hi1, o, ho, hedge⟩ := hi
    have hil : i < ops.size := (Array.getElem?_eq_some_iff.1 ho).1
    have hDi : listed.getD i false = false := by
      simp only [Array.getD_eq_getD_getElem?, Array.getElem?_eq_getElem (show i < listed.size by omega), Option.getD_some] at hi1 ⊢
      exact hi1
    -- the set of what is done
    obtain ⟨D, hD⟩ : ∃ D : Nat → Bool, D = fun j => listed.getD j false := ⟨_, rfl⟩
    have hDj : ∀ j, listed.getD j false = D j := fun j => by rw [hD]
    rw [show (fun j => listed.getD j false) = D from hD.symm] at R Er F
    have sound := befs_sound ops.toList D (fun j o' ho' hj e he hb => by rw [← hDj]; exact hcl j o' (by simpa using ho') (by rw [hDj]; exact hj) e he hb) ops.toList [] [] rfl rfl (fun j i hj => by simp at hj)
    have hDi' : D i = false := by rw [← hDj]; exact hDi
    -- ahead of i: done; behind i: not done
    have ahead : ∀ j, ((befs ops.toList []).getD i 0).testBit j = true → D j = true := fun j hb => sound i j o (by simpa using ho) hb (fun e he hbb => by rw [← hDj]; exact hedge e he hbb)
    have behind : ∀ j oj, ops[j]? = some oj → ((befs ops.toList []).getD j 0).testBit i = true → D j = false := fun j oj hj hb => by
      cases hDj' : D j with
      | false => rfl
      | true =>
        have := sound j i oj (by simpa using hj) hb (fun e he hbb => by rw [← hDj]; exact hcl j oj hj (by rw [hDj]; exact hDj') e he hbb)
        rw [hDi'] at this; cases this
    -- the slots that i looks at
    have look : ∀ t, t ∈ o.looksAt ops → (envF ops (E 0) V D ops.size)[t]? = (E i)[t]? := by
      intro t ht
      rw [env_full T i (by omega), ← envF_lt i ops.size (by omega)]
      refine envF_agree t ops.size (fun j hj hd => ?_)
      obtain ⟨oj, hoj⟩ : ∃ oj, ops[j]? = some oj := ⟨_, Array.getElem?_eq_getElem hj⟩
      simp only [dstOf, hoj, Option.bind_some] at hd
      rcases Nat.lt_trichotomy j i with hlt | rfl | hgt
      · rcases statOK_pair hs hoj ho hlt with hb | ⟨hap, _⟩
        · rw [ahead j hb]; simp [hlt]
        · exact absurd ht ((Oper.apart_spec hap).1 t hd)
      · rw [hDi']; simp
      · rcases statOK_pair hs ho hoj hgt with hb | ⟨hap, _⟩
        · rw [behind j oj hoj hb]; simp; omega
        · exact absurd ht ((Oper.apart_spec hap).2.2 t hd)
    -- with i
    obtain ⟨D', hD'⟩ : ∃ D' : Nat → Bool, D' = fun j => (listed.setIfInBounds i true).getD j false := ⟨_, rfl⟩
    have hD'j : ∀ j, D' j = if j = i then true else D j := fun j => by
      rw [hD', ← hDj]
      by_cases e : j = i
      · subst e; simp [show j < listed.size by omega]
      · rw [if_neg e]
        simp only [Array.getD_eq_getD_getElem?]
        rw [Array.getElem?_setIfInBounds_ne (fun x => e x.symm)]
    have envI : envF ops (E 0) V D' ops.size = aPut (envF ops (E 0) V D ops.size) o.dst (V i) := by
      apply List.ext_getElem?
      intro t
      by_cases hd : o.dst = some t
      · rw [hd, aPut_eq, envF_length]
        refine envF_last i t (by simp [dstOf, ho, hd]) (by rw [hD'j]; simp) ops.size hil (fun j hj1 hj2 hj3 hdj => ?_)
        obtain ⟨oj, hoj⟩ : ∃ oj, ops[j]? = some oj := ⟨_, Array.getElem?_eq_getElem hj2⟩
        simp only [dstOf, hoj, Option.bind_some] at hdj
        rw [hD'j, if_neg (by omega)] at hj3
        rcases statOK_pair hs ho hoj hj1 with hb | ⟨hap, _⟩
        · rw [behind j oj hoj hb] at hj3; cases hj3
        · exact (Oper.apart_spec hap).2.1 t hd hdj
      · rw [aPut_ne hd]
        refine envF_agree t ops.size (fun j hj hdj => ?_)
        rw [hD'j]
        by_cases e : j = i
        · subst e; simp [dstOf, ho] at hdj; exact absurd hdj hd
        · rw [if_neg e]
    have hsz' : (listed.setIfInBounds i true).size = ops.size := by simp [hsz]
    have hcl' : ∀ j o', ops[j]? = some o' → (listed.setIfInBounds i true).getD j false = true → ∀ e ∈ o'.after, Region.binds .any e = true → (listed.setIfInBounds i true).getD e.on false = true := by
      intro j o' hj hl e he hb
      have h1 : D' j = true := by rw [hD']; exact hl
      have h2 : D' e.on = true := by
        rw [hD'j] at h1 ⊢
        by_cases ej : j = i
        · subst ej
          rw [ho] at hj; injection hj with hj; subst hj
          have := hedge e he hb
          rw [hDj] at this
          rw [this]; split <;> rfl
        · rw [if_neg ej] at h1
          have := hcl j o' hj (by rw [hDj]; exact h1) e he hb
          rw [hDj] at this
          rw [this]; split <;> rfl
      rw [hD'] at h2; exact h2
    have hcnt' : ((List.range ops.size).filter fun j => !(listed.setIfInBounds i true).getD j false).length ≤ fuel := by
      have hsub : ((List.range ops.size).filter fun j => !(listed.setIfInBounds i true).getD j false) = ((List.range ops.size).filter fun j => !listed.getD j false).erase i := by
        rw [List.Nodup.erase_eq_filter (List.Pairwise.filter _ List.nodup_range), List.filter_filter]
        apply List.filter_congr
        intro j _
        have h1 : (listed.setIfInBounds i true).getD j false = D' j := by rw [hD']
        rw [h1, hDj, hD'j]
        by_cases e : j = i
        · subst e; simp
        · simp [e]
      rw [hsub, List.length_erase_of_mem (by rw [List.mem_filter, List.mem_range]; exact ⟨hil, by rw [hDi]; rfl⟩)]
      omega
    obtain ⟨f1, f2, f3, f4⟩ := frA_spec (effAt P ops) D ops.size 0
    obtain ⟨g1, g2, g3, g4⟩ := frA_spec (effAt P ops) D' ops.size 0
    -- one more round
    have next : ∀ (m' : Mp) (w' : World) (v' : Value), Rel P m' (H (frA (effAt P ops) D' ops.size 0)) w' → VR m' (V i) v' → Fr m (H (frA (effAt P ops) D ops.size 0)) w m' (H (frA (effAt P ops) D' ops.size 0)) w' →
        wpAny P .any ops Q fuel (listed.setIfInBounds i true) (a.put o.dst v') w' := by
      intro m' w' v' R' hv' F'
      have e1 : (fun j => (listed.setIfInBounds i true).getD j false) = D' := hD'.symm
      refine ih _ m' w' _ hsz' hcl' hcnt' (by rw [e1]; exact R') ?_ (by rw [e1]; exact F.trans F')
      rw [e1, envI]
      exact (Er.mono F'.le).put o.dst hv'
    unfold wpOp
    simp only [ho]
    rw [wanted_sim ops o Er, aWanted_congr look]
    have hst := T.step i o ho
    cases heff : isEff P o.op with
    | true =>
      have hei : effAt P ops i = true := by simp [effAt, ho, heff]
      -- the first that is not done is i
      have hfi : frA (effAt P ops) D ops.size 0 = i := by
        have hle : frA (effAt P ops) D ops.size 0 ≤ i := by
          rcases Nat.lt_or_ge i (frA (effAt P ops) D ops.size 0) with h | h
          · have := f3 i (by omega) h hei
            rw [hDi'] at this; cases this
          · exact h
        rcases Nat.lt_or_ge (frA (effAt P ops) D ops.size 0) i with h | h
        · exfalso
          obtain ⟨hef, hDf⟩ := f4 (by omega)
          obtain ⟨of, hof⟩ : ∃ of, ops[frA (effAt P ops) D ops.size 0]? = some of := ⟨_, Array.getElem?_eq_getElem (by omega)⟩
          rcases statOK_pair hs hof ho h with hb | ⟨_, hne⟩
          · rw [ahead _ hb] at hDf; cases hDf
          · simp only [effAt, hof] at hef
            rw [hef, heff] at hne; cases hne
        · omega
      -- behind it the heap is as behind i
      have hgi : H (frA (effAt P ops) D' ops.size 0) = H (i + 1) := by
        have hgt : i + 1 ≤ frA (effAt P ops) D' ops.size 0 := by
          rcases Nat.lt_or_ge i (frA (effAt P ops) D' ops.size 0) with h | h
          · exact h
          · exfalso
            have hlt : frA (effAt P ops) D' ops.size 0 < ops.size := by omega
            obtain ⟨hef, hDg⟩ := g4 (by omega)
            rw [hD'j] at hDg
            by_cases e : frA (effAt P ops) D' ops.size 0 = i
            · rw [if_pos e] at hDg; cases hDg
            · rw [if_neg e] at hDg
              have := f3 _ (by omega) (by rw [hfi]; omega) hef
              rw [hDg] at this; cases this
        rcases heap_stays T (i + 1) _ hgt (by omega) with h | ⟨q, q1, q2, q3, q4⟩
        · exact h
        · exfalso
          have hDq := g3 q (by omega) q2 q3
          rw [hD'j, if_neg (by omega)] at hDq
          obtain ⟨oq, hoq⟩ : ∃ oq, ops[q]? = some oq := ⟨_, Array.getElem?_eq_getElem (by omega)⟩
          simp only [effAt, hoq] at q3
          rcases statOK_pair hs ho hoq (by omega) with hb | ⟨_, hne⟩
          · rw [behind q oq hoq hb] at hDq; cases hDq
          · rw [heff, q3] at hne; cases hne
      rw [hfi] at R F next
      rw [hgi] at next
      cases hw : aWanted ops o (E i) with
      | true =>
        simp only [if_true]
        have h1 := hst.1 hw
        rw [← aStep_congr (cf := cf) look] at h1
        exact .inl (aStep_sim CS R Er (hok i o ho) h1 (fun m' w' v' R' hv' F' => next m' w' v' R' hv' F'))
      | false =>
        simp only [Bool.false_eq_true, if_false]
        obtain ⟨h1, h2⟩ := hst.2 hw
        rw [h1, h2] at next
        exact next m w undef R (VR.undef m) (Fr.refl _ _ _)
    | false =>
      have hei : effAt P ops i = false := by simp [effAt, ho, heff]
      have hgi : frA (effAt P ops) D' ops.size 0 = frA (effAt P ops) D ops.size 0 := by
        have key : ∀ f s, frA (effAt P ops) D' f s = frA (effAt P ops) D f s := by
          intro f
          induction f with
          | zero => intro s; rfl
          | succ f ihf =>
            intro s
            simp only [frA]
            by_cases e : s = i
            · subst e; simp [hei, ihf]
            · rw [hD'j, if_neg e, ihf]
        exact key _ _
      rw [hgi] at next
      cases hw : aWanted ops o (E i) with
      | true =>
        simp only [if_true]
        have h1 := hst.1 hw
        unfold aStep at h1
        rw [isEff_callee heff] at h1
        simp only at h1
        -- the value is the same at the heap as it is now
        have hval : ∃ H', aOp P (H (frA (effAt P ops) D ops.size 0)) o.op (aEval (E i)) = some (V i, H') := by
          rcases Nat.lt_trichotomy i (frA (effAt P ops) D ops.size 0) with hlt | he | hgt
          · rcases heap_stays T i (frA (effAt P ops) D ops.size 0) (by omega) (by omega) with h | ⟨q, q1, q2, q3, q4⟩
            · rw [h]; exact ⟨_, h1⟩
            · have hqi : i < q := by
                rcases Nat.lt_or_ge i q with h | h
                · exact h
                · have : q = i := by omega
                  subst this; rw [hei] at q3; cases q3
              obtain ⟨oq, hoq⟩ : ∃ oq, ops[q]? = some oq := ⟨_, Array.getElem?_eq_getElem (by omega)⟩
              have hDq := f3 q (by omega) q2 q3
              simp only [effAt, hoq] at q3
              rw [q4]
              refine (hr i q o oq ho hoq heff hw q3).1 hqi ?_
              cases hb : ((befs ops.toList []).getD q 0).testBit i with
              | false => rfl
              | true => rw [behind q oq hoq hb] at hDq; cases hDq
          · rw [← he]; exact ⟨_, h1⟩
          · have hlt : frA (effAt P ops) D ops.size 0 < ops.size := by omega
            obtain ⟨hef, hDf⟩ := f4 (by omega)
            obtain ⟨of, hof⟩ : ∃ of, ops[frA (effAt P ops) D ops.size 0]? = some of := ⟨_, Array.getElem?_eq_getElem hlt⟩
            simp only [effAt, hof] at hef
            refine (hr i _ o of ho hof heff hw hef).2 hgt ?_
            cases hb : ((befs ops.toList []).getD i 0).testBit (frA (effAt P ops) D ops.size 0) with
            | false => rfl
            | true => rw [ahead _ hb] at hDf; cases hDf
        obtain ⟨H', hval⟩ := hval
        have hH' := isEff_heap heff hval
        subst hH'
        have h2 : aStep P cf o (envF ops (E 0) V D ops.size) (H (frA (effAt P ops) D ops.size 0)) = some (V i, H (frA (effAt P ops) D ops.size 0)) := by
          rw [aStep_congr (cf := cf) look]
          unfold aStep
          rw [isEff_callee heff]
          exact hval
        exact .inl (aStep_sim CS R Er (hok i o ho) h2 (fun m' w' v' R' hv' F' => next m' w' v' R' hv' F'))
      | false =>
        simp only [Bool.false_eq_true, if_false]
        obtain ⟨h1, h2⟩ := hst.2 hw
        rw [h1] at next
        exact next m w undef R (VR.undef m) (Fr.refl _ _ _)
end
end Go.AM

namespace Go.AM
open Go
section
variable {P : Program} {cf : CallF} {ops : Array Oper} {H : Nat → Heap} {E : Nat → List Value} {V : Nat → Value}
theorem draw_gen {RS : (Nat → Bool) → Mp → World → Prop} (T : Tr0 P cf ops H E V)
    (hedge : ∀ j o, ops[j]? = some o → ∀ e ∈ o.after, Region.binds .any e = true → e.on < j)
    (hpair : ∀ i j oi oj, ops[i]? = some oi → ops[j]? = some oj → i < j → ((befs ops.toList []).getD j 0).testBit i = true ∨ oi.apart ops oj = true)
    (hw : ∀ i o, ops[i]? = some o → aWanted ops o (E i) = true)
    (hext : ∀ (D D' : Nat → Bool) m w, (∀ j, j < ops.size → D j = D' j) → RS D m w → RS D' m w)
    (hstep : ∀ (D : Nat → Bool) (i : Nat) (o : Oper) (m : Mp) (w : World) (a : Act), ops[i]? = some o → D i = false →
      (∀ j, ((befs ops.toList []).getD i 0).testBit j = true → D j = true) → (∀ j oj, ops[j]? = some oj → ((befs ops.toList []).getD j 0).testBit i = true → D j = false) →
      RS D m w → ERel m (envF ops (E 0) V D ops.size) a → (∀ t, t ∈ o.looksAt ops → (envF ops (E 0) V D ops.size)[t]? = (E i)[t]?) →
      ∀ (next : Act → World → Prop) (Q : Exit → Act → World → Prop), (∀ m' w' v', RS (fun j => if j = i then true else D j) m' w' → VR m' (V i) v' → m.le m' → next (a.put o.dst v') w') → o.wp P a w next Q)
    {Q : Exit → Act → World → Prop} (K : ∀ m' w' a', RS (fun _ => true) m' w' → ERel m' (E ops.size) a' → Q .normal a' w') :
    ∀ (fuel : Nat) (listed : Array Bool) (m : Mp) (w : World) (a : Act), listed.size = ops.size →
      (∀ j o, ops[j]? = some o → listed.getD j false = true → ∀ e ∈ o.after, Region.binds .any e = true → listed.getD e.on false = true) →
      ((List.range ops.size).filter fun j => !listed.getD j false).length ≤ fuel →
      RS (fun j => listed.getD j false) m w → ERel m (envF ops (E 0) V (fun j => listed.getD j false) ops.size) a → wpAny P .any ops Q fuel listed a w := by
  -- what is ready when nothing is
  have done : ∀ (listed : Array Bool) (m : Mp) (w : World) (a : Act), (∀ j, j < ops.size → listed.getD j false = true) →
      RS (fun j => listed.getD j false) m w → ERel m (envF ops (E 0) V (fun j => listed.getD j false) ops.size) a → Q .normal a w := by
    intro listed m w a hall R Er
    have he : envF ops (E 0) V (fun j => listed.getD j false) ops.size = E ops.size := by
      rw [env_full T ops.size (Nat.le_refl _)]
      apply List.ext_getElem?
      intro t
      exact envF_agree t ops.size (fun i hi _ => hall i hi)
    rw [he] at Er
    exact K m w a (hext _ _ _ _ (fun j hj => hall j hj) R) Er
  have hready : ∀ (listed : Array Bool), listed.size = ops.size → (Region.ready .any ops listed = []) → ∀ j, j < ops.size → listed.getD j false = true := by
    intro listed hsz hnil j
    induction j using Nat.strongRecOn with
    | _ j ih =>
      intro hj
      cases hl : listed.getD j false with
      | true => rfl
      | false =>
        exfalso
        obtain ⟨o, ho⟩ : ∃ o, ops[j]? = some o := ⟨_, Array.getElem?_eq_getElem hj⟩
        have : j ∈ Region.ready .any ops listed := by
          rw [mem_ready]
          refine ⟨?_, o, ho, fun e he hb => ?_⟩
          · simp only [Array.getD_eq_getD_getElem?, Array.getElem?_eq_getElem (show j < listed.size by omega), Option.getD_some] at hl ⊢
            exact hl
          · have := hedge j o ho e he hb
            exact ih e.on this (by omega)
        rw [hnil] at this
        cases this
  intro fuel
  induction fuel with
  | zero =>
    intro listed m w a hsz hcl hcnt R Er
    have hall : ∀ j, j < ops.size → listed.getD j false = true := by
      intro j hj
      cases hl : listed.getD j false with
      | true => rfl
      | false =>
        exfalso
        have hm : j ∈ ((List.range ops.size).filter fun j => !listed.getD j false) := by
          rw [List.mem_filter, List.mem_range]; exact ⟨hj, by rw [hl]; rfl⟩
        rw [List.length_eq_zero_iff.1 (Nat.le_zero.1 hcnt)] at hm
        cases hm
    refine ⟨?_, done listed m w a hall R Er⟩
    rw [List.eq_nil_iff_forall_not_mem]
    intro j hj
    rw [mem_ready] at hj
    obtain ⟨hj1, o, ho, _⟩ := hj
    have hjl : j < ops.size := (Array.getElem?_eq_some_iff.1 ho).1
    have := hall j hjl
    simp only [Array.getD_eq_getD_getElem?, Array.getElem?_eq_getElem (show j < listed.size by omega), Option.getD_some] at hj1 this
    rw [hj1] at this; cases this
  | succ fuel ih =>
    intro listed m w a hsz hcl hcnt R Er
    refine ⟨fun hnil => done listed m w a (hready listed hsz hnil) R Er, fun i hi => ?_⟩
    rw [mem_ready] at hi
    obtain ⟨hi1, o, ho, hedge⟩ := hi
    have hil : i < ops.size := (Array.getElem?_eq_some_iff.1 ho).1
    have hDi : listed.getD i false = false := by
      simp only [Array.getD_eq_getD_getElem?, Array.getElem?_eq_getElem (show i < listed.size by omega), Option.getD_some] at hi1 ⊢
      exact hi1
    -- the set of what is done
    obtain ⟨D, hD⟩ : ∃ D : Nat → Bool, D = fun j => listed.getD j false := ⟨_, rfl⟩
    have hDj : ∀ j, listed.getD j false = D j := fun j => by rw [hD]
    rw [show (fun j => listed.getD j false) = D from hD.symm] at R Er
    have sound := befs_sound ops.toList D (fun j o' ho' hj e he hb => by rw [← hDj]; exact hcl j o' (by simpa using ho') (by rw [hDj]; exact hj) e he hb) ops.toList [] [] rfl rfl (fun j i hj => by simp at hj)
    have hDi' : D i = false := by rw [← hDj]; exact hDi
    -- ahead of i: done; behind i: not done
    have ahead : ∀ j, ((befs ops.toList []).getD i 0).testBit j = true → D j = true := fun j hb => sound i j o (by simpa using ho) hb (fun e he hbb => by rw [← hDj]; exact hedge e he hbb)
    have behind : ∀ j oj, ops[j]? = some oj → ((befs ops.toList []).getD j 0).testBit i = true → D j = false := fun j oj hj hb => by
      cases hDj' : D j with
      | false => rfl
      | true =>
        have := sound j i oj (by simpa using hj) hb (fun e he hbb => by rw [← hDj]; exact hcl j oj hj (by rw [hDj]; exact hDj') e he hbb)
        rw [hDi'] at this; cases this
    -- the slots that i looks at
    have look : ∀ t, t ∈ o.looksAt ops → (envF ops (E 0) V D ops.size)[t]? = (E i)[t]? := by
      intro t ht
      rw [env_full T i (by omega), ← envF_lt i ops.size (by omega)]
      refine envF_agree t ops.size (fun j hj hd => ?_)
      obtain ⟨oj, hoj⟩ : ∃ oj, ops[j]? = some oj := ⟨_, Array.getElem?_eq_getElem hj⟩
      simp only [dstOf, hoj, Option.bind_some] at hd
      rcases Nat.lt_trichotomy j i with hlt | rfl | hgt
      · rcases hpair _ _ _ _ hoj ho hlt with hb | hap
        · rw [ahead j hb]; simp [hlt]
        · exact absurd ht ((Oper.apart_spec hap).1 t hd)
      · rw [hDi']; simp
      · rcases hpair _ _ _ _ ho hoj hgt with hb | hap
        · rw [behind j oj hoj hb]; simp; omega
        · exact absurd ht ((Oper.apart_spec hap).2.2 t hd)
    -- with i
    obtain ⟨D', hD'⟩ : ∃ D' : Nat → Bool, D' = fun j => (listed.setIfInBounds i true).getD j false := ⟨_, rfl⟩
    have hD'j : ∀ j, D' j = if j = i then true else D j := fun j => by
      rw [hD', ← hDj]
      by_cases e : j = i
      · subst e; simp [show j < listed.size by omega]
      · rw [if_neg e]
        simp only [Array.getD_eq_getD_getElem?]
        rw [Array.getElem?_setIfInBounds_ne (fun x => e x.symm)]
    have envI : envF ops (E 0) V D' ops.size = aPut (envF ops (E 0) V D ops.size) o.dst (V i) := by
      apply List.ext_getElem?
      intro t
      by_cases hd : o.dst = some t
      · rw [hd, aPut_eq, envF_length]
        refine envF_last i t (by simp [dstOf, ho, hd]) (by rw [hD'j]; simp) ops.size hil (fun j hj1 hj2 hj3 hdj => ?_)
        obtain ⟨oj, hoj⟩ : ∃ oj, ops[j]? = some oj := ⟨_, Array.getElem?_eq_getElem hj2⟩
        simp only [dstOf, hoj, Option.bind_some] at hdj
        rw [hD'j, if_neg (by omega)] at hj3
        rcases hpair _ _ _ _ ho hoj hj1 with hb | hap
        · rw [behind j oj hoj hb] at hj3; cases hj3
        · exact (Oper.apart_spec hap).2.1 t hd hdj
      · rw [aPut_ne hd]
        refine envF_agree t ops.size (fun j hj hdj => ?_)
        rw [hD'j]
        by_cases e : j = i
        · subst e; simp [dstOf, ho] at hdj; exact absurd hdj hd
        · rw [if_neg e]
    have hsz' : (listed.setIfInBounds i true).size = ops.size := by simp [hsz]
    have hcl' : ∀ j o', ops[j]? = some o' → (listed.setIfInBounds i true).getD j false = true → ∀ e ∈ o'.after, Region.binds .any e = true → (listed.setIfInBounds i true).getD e.on false = true := by
      intro j o' hj hl e he hb
      have h1 : D' j = true := by rw [hD']; exact hl
      have h2 : D' e.on = true := by
        rw [hD'j] at h1 ⊢
        by_cases ej : j = i
        · subst ej
          rw [ho] at hj; injection hj with hj; subst hj
          have := hedge e he hb
          rw [hDj] at this
          rw [this]; split <;> rfl
        · rw [if_neg ej] at h1
          have := hcl j o' hj (by rw [hDj]; exact h1) e he hb
          rw [hDj] at this
          rw [this]; split <;> rfl
      rw [hD'] at h2; exact h2
    have hcnt' : ((List.range ops.size).filter fun j => !(listed.setIfInBounds i true).getD j false).length ≤ fuel := by
      have hsub : ((List.range ops.size).filter fun j => !(listed.setIfInBounds i true).getD j false) = ((List.range ops.size).filter fun j => !listed.getD j false).erase i := by
        rw [List.Nodup.erase_eq_filter (List.Pairwise.filter _ List.nodup_range), List.filter_filter]
        apply List.filter_congr
        intro j _
        have h1 : (listed.setIfInBounds i true).getD j false = D' j := by rw [hD']
        rw [h1, hDj, hD'j]
        by_cases e : j = i
        · subst e; simp
        · simp [e]
      rw [hsub, List.length_erase_of_mem (by rw [List.mem_filter, List.mem_range]; exact ⟨hil, by rw [hDi]; rfl⟩)]
      omega
    have e1 : (fun j => (listed.setIfInBounds i true).getD j false) = D' := hD'.symm
    have e2 : (fun j => if j = i then true else D j) = D' := funext fun j => (hD'j j).symm
    unfold wpOp
    simp only [ho]
    rw [wanted_sim ops o Er, aWanted_congr look, hw i o ho]
    simp only [if_true]
    refine .inl (hstep D i o m w a ho hDi' ahead behind R Er look _ _ (fun m' w' v' R' hv' hle => ?_))
    refine ih _ m' w' _ hsz' hcl' hcnt' (by rw [e1, ← e2]; exact R') ?_
    rw [e1, envI]
    exact (Er.mono hle).put o.dst hv'
end
def isRdr (o : Op) : Bool := match o with
  | .move _ | .nilCheck _ | .fieldAddr _ _ _ | .load _ _ => true
  | _ => false
section
variable {P : Program} {m m0 : Mp} {h h' h0 : Heap} {w w0 : World}
theorem Rel.congrG (R : Rel P m h w) (hn : h'.next = h.next) (hg : ∀ k, h'.get k = h.get k) : Rel P m h' w := by
  refine ⟨fun k loc cs el ro hk h1 => R.ent k loc cs el ro hk (by rw [← hg]; exact h1), fun k k' l l' hk hk' hv hv' => R.inj k k' l l' hk hk' ?_ ?_, R.inb, fun k hk => R.fresh k (by omega), R.glob⟩
  · obtain ⟨a, b, e⟩ := hv; exact ⟨a, b, by rw [← hg]; exact e⟩
  · obtain ⟨a, b, c, e⟩ := hv'; exact ⟨a, b, c, by rw [← hg]; exact e⟩
theorem Fr.congrG (F : Fr m0 h0 w0 m h w) (hn : h'.next = h.next) (hg : ∀ k, h'.get k = h.get k) : Fr m0 h0 w0 m h' w :=
  ⟨F.os, F.tape, F.output, F.size, F.keep, fun cb hc ho => F.own cb hc (by
    obtain ⟨k, l, a, b, c, d, e⟩ := ho
    exact ⟨k, l, a, b, c, d, by rw [← hg]; exact e⟩), F.le, by rw [hn]; exact F.nx⟩
theorem Rel.ext (R : Rel P m h w) (hn : h.next ≤ h'.next) (hg : ∀ k, k < h.next → h'.get k = h.get k) : Rel P m h' w ∧ Fr m h w m h' w := by
  have low : ∀ k l, m k = some l → k < h.next := fun k l hk => by
    rcases Nat.lt_or_ge k h.next with x | x
    · exact x
    · rw [R.fresh k x] at hk; cases hk
  refine ⟨⟨fun k loc cs el ro hk h1 => R.ent k loc cs el ro hk (by rw [← hg k (low _ _ hk)]; exact h1), fun k k' l l' hk hk' hv hv' => R.inj k k' l l' hk hk' ?_ ?_, R.inb, fun k hk => R.fresh k (by omega), R.glob⟩, ⟨rfl, rfl, rfl, Nat.le_refl _, fun _ _ _ => rfl, fun cb hc ho => ?_, Mp.le_refl m, hn⟩⟩
  · obtain ⟨a, b, e⟩ := hv; exact ⟨a, b, by rw [← hg k (low _ _ hk)]; exact e⟩
  · obtain ⟨a, b, c, e⟩ := hv'; exact ⟨a, b, c, by rw [← hg k' (low _ _ hk')]; exact e⟩
  · obtain ⟨k, l, a, b, c, d, e⟩ := ho
    exact ⟨k, l, a, b, c, d, by rw [← hg k (low _ _ a)]; exact e⟩
theorem Rel.newAt (R : Rel P m h w) {kn : Nat} (hkn : m kn = none) (hlt : kn < h.next) {w' : World} {c : Array Value} {el : TypeId} {fr : Nat × Nat} (hw : w'.heap = w.heap.push (.cells c el fr))
    {cs : List Value} (loc : Loc) (hb : loc.blk = w.heap.size) (hz : loc.csz = c.size) (hd : loc.dl = 0) (he : loc.esz = eszOf P el) (hl : cs.length ≤ c.size)
    (hcs : ∀ (i : Nat) (v : Value), cs[i]? = some v → ∃ v', c[i]? = some v' ∧ VR m v v') (hfr : fr.1 = fr.2 ∨ c.size ≤ fr.1)
    (h1 : ∀ (i : Nat) (v : Value), cs[i]? = some v → v.oneCell' = true) (hos : w'.os = w.os) (htape : w'.tape = w.tape) (hout : w'.output = w.output) :
    Rel P (m.upd kn loc) (h.set kn (.cells cs el false)) w' ∧ Fr m h w (m.upd kn loc) (h.set kn (.cells cs el false)) w' := by
  have hle : m.le (m.upd kn loc) := Mp.le_upd loc hkn
  have hold : ∀ b, b < w.heap.size → w'.heap[b]? = w.heap[b]? := fun b hb => by rw [hw, Array.getElem?_push, if_neg (by omega)]
  have hsz : w'.heap.size = w.heap.size + 1 := by rw [hw]; simp
  have gne : ∀ k, k ≠ kn → (h.set kn (.cells cs el false)).get k = h.get k := fun k e => by rw [Heap.get_set, if_neg (fun x => e x.1)]
  constructor
  · constructor
    · intro k l cs2 el2 ro2 hk hg
      by_cases e : k = kn
      · subst e
        rw [Heap.get_set, if_pos ⟨rfl, hlt⟩] at hg
        rw [Mp.upd_same] at hk
        injection hk with hk; subst hk
        injection hg with hg; injection hg with e1 e2 e3; subst e1; subst e2; subst e3
        refine ⟨c, fr, by rw [hb, hw]; simp, hz.symm, by rw [hd, hz]; omega, he, fun i v hv => ?_, fun _ => hfr, h1⟩
        obtain ⟨v', a, b⟩ := hcs i v hv
        exact ⟨v', by rw [hd, Nat.zero_add]; exact a, b.mono hle⟩
      · rw [gne k e] at hg
        rw [Mp.upd_ne _ _ _ e] at hk
        exact (R.ent k l cs2 el2 ro2 hk hg).mono hle (hold _ (R.inb _ _ hk))
    · intro k k' l l' hk hk' hv hv' hbb
      by_cases e : k = kn
      · by_cases e' : k' = kn
        · rw [e, e']
        · subst e
          rw [Mp.upd_same] at hk; injection hk with hk; subst hk
          rw [Mp.upd_ne _ _ _ e'] at hk'
          have := R.inb _ _ hk'
          omega
      · rw [Mp.upd_ne _ _ _ e] at hk
        by_cases e' : k' = kn
        · subst e'
          rw [Mp.upd_same] at hk'; injection hk' with hk'; subst hk'
          have := R.inb _ _ hk
          omega
        · rw [Mp.upd_ne _ _ _ e'] at hk'
          refine R.inj k k' l l' hk hk' ?_ ?_ hbb
          · obtain ⟨a, b, hg⟩ := hv; exact ⟨a, b, by rw [← gne k e]; exact hg⟩
          · obtain ⟨a, b, c, hg⟩ := hv'; exact ⟨a, b, c, by rw [← gne k' e']; exact hg⟩
    · intro k l hk
      by_cases e : k = kn
      · subst e; rw [Mp.upd_same] at hk; injection hk with hk; subst hk; omega
      · rw [Mp.upd_ne _ _ _ e] at hk; have := R.inb _ _ hk; omega
    · intro k hk
      simp only [Heap.next_set] at hk
      rw [Mp.upd_ne _ _ _ (by omega)]
      exact R.fresh k hk
    · intro g hg
      obtain ⟨l, a, b, c⟩ := R.glob g hg
      exact ⟨l, hle _ _ a, b, c⟩
  · refine ⟨hos, htape, hout, by omega, fun cb hcb _ => hold cb hcb, fun cb hcb ho => ?_, hle, by simp⟩
    obtain ⟨k, l, hk, hl', cs2, el2, hg⟩ := ho
    by_cases e : k = kn
    · subst e; rw [Mp.upd_same] at hk; injection hk with hk; subst hk; omega
    · rw [Mp.upd_ne _ _ _ e] at hk
      exact ⟨k, l, hk, hl', cs2, el2, by rw [← gne k e]; exact hg⟩
theorem rdr_sim (R : Rel P m h w) {o : Oper} {ρ ρ' : Operand → Value} {v : Value} (hr : isRdr o.op = true) (ho : opOK P o.op = true) (hρ : ∀ x, opndOK P x = true → VR m (ρ x) (ρ' x)) (ha : aOp P h o.op ρ = some (v, h')) :
    ∃ v', (execOp ρ' o).run P w = .ok (.value v') w ∧ VR m v v' := by
  have hall := opndOK_all ho
  have get : ∀ x, x ∈ o.op.operands.toList → VR m (ρ x) (ρ' x) := fun x hx => hρ x (hall x hx)
  unfold isRdr at hr
  split at hr
  · rename_i x hop
    rw [hop] at ha get
    injection ha with ha; injection ha with e1 e2; subst e1
    exact ⟨ρ' x, by simp [execOp, hop], get x (by simp [Op.operands])⟩
  · rename_i x hop
    rw [hop] at ha get
    simp only [aOp] at ha
    split at ha
    · rename_i a hx
      injection ha with ha; injection ha with e1 e2; subst e1
      have hv := get x (by simp [Op.operands])
      rw [hx] at hv
      refine ⟨ρ' x, ?_, hv⟩
      unfold execOp; rw [hop]
      dsimp only
      cases hv' : ρ' x <;> rw [hv'] at hv <;> cases hv
      rfl
    · cases ha
  · rename_i t x f hop
    rw [hop] at ha get
    obtain ⟨hb, he⟩ := withH_some ha
    obtain ⟨v', c, d⟩ := aFieldAddr_sim (get x (by simp [Op.operands])) hb w
    refine ⟨v', ?_, d⟩
    unfold execOp; rw [hop]; exact rb c rfl
  · rename_i t a hop
    rw [hop] at ha get
    obtain ⟨hb, he⟩ := withH_some ha
    obtain ⟨v', c, d⟩ := aLoad_sim R (get a (by simp [Op.operands])) hb
    refine ⟨v', ?_, d⟩
    unfold execOp; rw [hop]; exact rb c rfl
  · cases hr
theorem rdr_heap {o : Op} {ρ : Operand → Value} {v : Value} {h1 h2 h1' : Heap} (hr : isRdr o = true) (hl : ∀ t a, o = .load t a → ∃ k off, ρ a = .pointer (some ⟨k, off, none⟩) ∧ h2.get k = h1.get k) (ha : aOp P h1 o ρ = some (v, h1')) : aOp P h2 o ρ = some (v, h2) := by
  unfold isRdr at hr
  split at hr
  · injection ha with ha; injection ha with e1 e2; subst e1; rfl
  · simp only [aOp] at ha ⊢
    split at ha
    · injection ha with ha; injection ha with e1 e2; subst e1; rfl
    · cases ha
  · obtain ⟨hb, he⟩ := withH_some ha
    show withH h2 _ = _
    rw [hb]; rfl
  · rename_i t a
    obtain ⟨k, off, e, hg⟩ := hl t a rfl
    obtain ⟨hb, he⟩ := withH_some ha
    show withH h2 (aLoad P h2 t (ρ a)) = _
    have : aLoad P h2 t (ρ a) = aLoad P h1 t (ρ a) := by
      rw [e]
      simp only [aLoad, rdN, rd1, hg]
    rw [this, hb]; rfl
  · cases hr
end
section
variable {P : Program} {cf : CallF} {ops : Array Oper} {H : Nat → Heap} {E : Nat → List Value} {V : Nat → Value}
def AlAt (ops : Array Oper) (j : Nat) : Prop := ∃ o e, ops[j]? = some o ∧ o.op = .alloc e
def StOn (ops : Array Oper) (E : Nat → List Value) (s k : Nat) : Prop := ∃ o T ao vo off, ops[s]? = some o ∧ o.op = .store T ao vo ∧ aEval (E s) ao = .pointer (some ⟨k, off, none⟩)
theorem AlAt.lt {j : Nat} (h : AlAt ops j) : j < ops.size := by
  obtain ⟨o, e, h1, _⟩ := h; exact (Array.getElem?_eq_some_iff.1 h1).1
theorem StOn.lt {s k : Nat} (h : StOn ops E s k) : s < ops.size := by
  obtain ⟨o, _, _, _, _, h1, _⟩ := h; exact (Array.getElem?_eq_some_iff.1 h1).1
structure Par (P : Program) (cf : CallF) (ops : Array Oper) (H : Nat → Heap) (E : Nat → List Value) (V : Nat → Value) : Prop where
  tr : Tr0 P cf ops H E V
  wanted : ∀ (i : Nat) (o : Oper), ops[i]? = some o → aWanted ops o (E i) = true
  kind : ∀ (i : Nat) (o : Oper), ops[i]? = some o → isRdr o.op = true ∨ (∃ e : TypeId, o.op = .alloc e) ∨ (∃ (T : TypeId) (a v : Operand), o.op = .store T a v)
  rd : ∀ (i : Nat) (o : Oper) (t : TypeId) (a : Operand), ops[i]? = some o → o.op = .load t a → ∃ k off, aEval (E i) a = .pointer (some ⟨k, off, none⟩) ∧ k < (H 0).next
  st : ∀ s k, StOn ops E s k → (H 0).next ≤ k
  dis : ∀ s s' k, StOn ops E s k → StOn ops E s' k → s = s'
  bit : ∀ s j, StOn ops E s (H j).next → AlAt ops j → ((befs ops.toList []).getD s 0).testBit j = true
theorem Par.op (p : Par P cf ops H E V) {i : Nat} {o : Oper} (ho : ops[i]? = some o) : aOp P (H i) o.op (aEval (E i)) = some (V i, H (i + 1)) := by
  have h1 := (p.tr.step i o ho).1 (p.wanted i o ho)
  unfold aStep at h1
  have hc : aCallee o.op (aEval (E i)) = none := by
    rcases p.kind i o ho with h | ⟨e, h⟩ | ⟨T, a, v, h⟩
    · unfold isRdr at h
      split at h <;> first | (rename_i hop; rw [hop]; rfl) | cases h
    · rw [h]; rfl
    · rw [h]; rfl
  rw [hc] at h1
  exact h1
theorem Par.rdF (p : Par P cf ops H E V) {i : Nat} {o : Oper} (ho : ops[i]? = some o) (hr : isRdr o.op = true) : H (i + 1) = H i := by
  refine isEff_heap ?_ (p.op ho)
  unfold isRdr at hr
  split at hr <;> first | (rename_i hop; rw [hop]; rfl) | cases hr
theorem Par.alF (p : Par P cf ops H E V) {i : Nat} {o : Oper} {e : TypeId} (ho : ops[i]? = some o) (hop : o.op = .alloc e) :
    ∃ inf z, P.info? e = some inf ∧ inf.zero = some z ∧ plainB 4 z = true ∧ z.cells.toList.all Value.oneCell' = true ∧ V i = .pointer (some ⟨(H i).next, 0, none⟩) ∧ H (i + 1) = (H i).push (.cells z.cells.toList e false) := by
  have h1 := p.op ho
  rw [hop] at h1
  simp only [aOp, aAlloc] at h1
  split at h1
  · rename_i inf hi
    split at h1
    · rename_i z hz
      cases hp : plainB 4 z with
      | false => rw [hp] at h1; cases h1
      | true =>
        rw [hp] at h1
        simp only [cond_true] at h1
        split at h1
        · rename_i h2 h3
          injection h1 with h1; injection h1 with e1 e2
          unfold aNew at h3
          cases ho : z.cells.toList.all Value.oneCell' with
          | false => rw [ho] at h3; cases h3
          | true =>
            rw [ho] at h3
            injection h3 with h3
            exact ⟨inf, z, hi, hz, hp, ho, e1.symm, by rw [← e2, ← h3]⟩
        · cases h1
    · cases h1
  · cases h1
theorem Par.stF (p : Par P cf ops H E V) {i : Nat} {o : Oper} {T : TypeId} {ao vo : Operand} (ho : ops[i]? = some o) (hop : o.op = .store T ao vo) :
    ∃ k off cs X el, aEval (E i) ao = .pointer (some ⟨k, off, none⟩) ∧ (H i).get k = some (.cells cs el false) ∧ H (i + 1) = (H i).set k (.cells X el false) ∧ V i = undef ∧
      ∀ h : Heap, h.get k = (H i).get k → aStore P h T (aEval (E i) ao) (aEval (E i) vo) = some (h.set k (.cells X el false)) := by
  have h1 := p.op ho
  rw [hop] at h1
  simp only [aOp] at h1
  split at h1
  · rename_i h2 hs
    injection h1 with h1; injection h1 with e1 e2; subst e2
    unfold aStore at hs
    split at hs
    · rename_i k off inf hadr hi
      cases hb : Nat.beq (aEval (E i) vo).cells.size inf.size with
      | false => rw [hb] at hs; cases hs
      | true =>
        rw [hb] at hs
        simp only [cond_true] at hs
        unfold wrN at hs
        split at hs
        · rename_i cs el hg
          cases hc : Nat.ble (off + (aEval (E i) vo).cells.toList.length) cs.length && (aEval (E i) vo).cells.toList.all Value.oneCell' with
          | false => rw [hc] at hs; cases hs
          | true =>
            rw [hc] at hs
            injection hs with hs
            refine ⟨k, off, cs, setL cs off (aEval (E i) vo).cells.toList, el, hadr, hg, hs.symm, e1.symm, fun h hh => ?_⟩
            unfold aStore
            simp only [hadr, hi, hb, cond_true, wrN, hh, hg, hc]
        · cases hs
    · cases hs
  · cases h1
theorem Par.next1 (p : Par P cf ops H E V) {i : Nat} (hi : i < ops.size) : (H i).next ≤ (H (i + 1)).next := by
  have ho : ops[i]? = some ops[i] := Array.getElem?_eq_getElem hi
  rcases p.kind i _ ho with h | ⟨e, h⟩ | ⟨T, a, v, h⟩
  · rw [p.rdF ho h]; exact Nat.le_refl _
  · obtain ⟨_, _, _, _, _, _, _, h2⟩ := p.alF ho h; rw [h2]; simp
  · obtain ⟨_, _, _, _, _, _, _, h2, _⟩ := p.stF ho h; rw [h2]; simp
theorem Par.next (p : Par P cf ops H E V) {i i' : Nat} (hii : i ≤ i') (hi : i' ≤ ops.size) : (H i).next ≤ (H i').next := by
  induction i' with
  | zero => have : i = 0 := by omega
            subst this; exact Nat.le_refl _
  | succ n ih =>
    by_cases e : i = n + 1
    · subst e; exact Nat.le_refl _
    · exact Nat.le_trans (ih (by omega) (by omega)) (p.next1 (by omega))
theorem Par.stay (p : Par P cf ops H E V) {i i' k : Nat} (hii : i ≤ i') (hi : i' ≤ ops.size) (hk : k < (H i).next) (hs : ∀ s, i ≤ s → s < i' → ¬ StOn ops E s k) : (H i').get k = (H i).get k := by
  induction i' with
  | zero => have : i = 0 := by omega
            subst this; rfl
  | succ n ih =>
    by_cases e : i = n + 1
    · subst e; rfl
    · have ih := ih (by omega) (by omega) (fun s h1 h2 => hs s h1 (by omega))
      have hkn : k < (H n).next := Nat.lt_of_lt_of_le hk (p.next (by omega) (by omega))
      have ho : ops[n]? = some ops[n] := Array.getElem?_eq_getElem (by omega)
      rw [← ih]
      rcases p.kind n _ ho with h | ⟨e, h⟩ | ⟨T, a, v, h⟩
      · rw [p.rdF ho h]
      · obtain ⟨_, _, _, _, _, _, _, h2⟩ := p.alF ho h
        rw [h2, Heap.get_push, if_neg (by omega)]
      · obtain ⟨k', off, _, _, _, h3, _, h2, _⟩ := p.stF ho h
        have hne : k ≠ k' := fun e => hs n (by omega) (by omega) ⟨_, T, a, v, off, ho, h, by rw [e]; exact h3⟩
        rw [h2, Heap.get_set, if_neg (fun x => hne x.1)]
theorem Par.new (p : Par P cf ops H E V) {i k : Nat} (hi : i ≤ ops.size) (h0 : (H 0).next ≤ k) (hk : k < (H i).next) : ∃ j, j < i ∧ AlAt ops j ∧ (H j).next = k := by
  induction i with
  | zero => omega
  | succ n ih =>
    by_cases h : k < (H n).next
    · obtain ⟨j, a, b⟩ := ih (by omega) h
      exact ⟨j, by omega, b⟩
    · have ho : ops[n]? = some ops[n] := Array.getElem?_eq_getElem (by omega)
      rcases p.kind n _ ho with h1 | ⟨e, h1⟩ | ⟨T, a, v, h1⟩
      · rw [p.rdF ho h1] at hk; exact absurd hk h
      · obtain ⟨_, _, _, _, _, _, _, h2⟩ := p.alF ho h1
        rw [h2, Heap.next_push] at hk
        exact ⟨n, by omega, ⟨_, e, ho, h1⟩, by omega⟩
      · obtain ⟨_, _, _, _, _, _, _, h2, _⟩ := p.stF ho h1
        rw [h2, Heap.next_set] at hk; exact absurd hk h
theorem Par.inj (p : Par P cf ops H E V) {i j : Nat} (hi : AlAt ops i) (hj : AlAt ops j) (e : (H i).next = (H j).next) : i = j := by
  have key : ∀ a b, AlAt ops a → AlAt ops b → a < b → (H a).next < (H b).next := fun a b ha hb hab => by
    obtain ⟨o, t, h1, h2⟩ := ha
    obtain ⟨_, _, _, _, _, _, _, h3⟩ := p.alF h1 h2
    have := p.next (i := a + 1) (i' := b) (by omega) (Nat.le_of_lt hb.lt)
    rw [h3, Heap.next_push] at this
    omega
  rcases Nat.lt_trichotomy i j with h | h | h
  · have := key i j hi hj h; omega
  · exact h
  · have := key j i hj hi h; omega
structure HD (ops : Array Oper) (H : Nat → Heap) (E : Nat → List Value) (D : Nat → Bool) (h : Heap) : Prop where
  nx : h.next = (H ops.size).next
  old : ∀ k, k < (H 0).next → h.get k = (H 0).get k
  zer : ∀ j, AlAt ops j → D j = true → (∀ s, StOn ops E s (H j).next → D s = false) → h.get (H j).next = (H (j + 1)).get (H j).next
  don : ∀ s k, StOn ops E s k → D s = true → h.get k = (H ops.size).get k
theorem Par.fin (p : Par P cf ops H E V) {h : Heap} (hd : HD ops H E (fun _ => true) h) : h.next = (H ops.size).next ∧ ∀ k, (H ops.size).get k = h.get k := by
  refine ⟨hd.nx, fun k => ?_⟩
  by_cases h0 : k < (H 0).next
  · rw [hd.old k h0]
    exact p.stay (Nat.zero_le _) (Nat.le_refl _) h0 (fun s _ _ hs => absurd (p.st s k hs) (by omega))
  · by_cases hk : k < (H ops.size).next
    · obtain ⟨j, hj, ha, e⟩ := p.new (Nat.le_refl _) (by omega) hk
      by_cases hs : ∃ s, StOn ops E s k
      · obtain ⟨s, hs⟩ := hs
        exact (hd.don s k hs rfl).symm
      · subst e
        rw [hd.zer j ha rfl (fun s h => absurd ⟨s, h⟩ hs)]
        have hlt : (H j).next < (H (j + 1)).next := by
          obtain ⟨o, t, h1, h2⟩ := ha
          obtain ⟨_, _, _, _, _, _, _, h3⟩ := p.alF h1 h2
          rw [h3]; simp
        exact p.stay (by omega) (Nat.le_refl _) hlt (fun s _ _ h => hs ⟨s, h⟩)
    · have n1 : (H ops.size).get k = none := by unfold Heap.get; rw [blt_false hk]; rfl
      have n2 : h.get k = none := by unfold Heap.get; rw [blt_false (by rw [hd.nx]; exact hk)]; rfl
      rw [n1, n2]
def ParS (P : Program) (ops : Array Oper) (H : Nat → Heap) (E : Nat → List Value) (m0 : Mp) (w0 : World) (D : Nat → Bool) (m : Mp) (w : World) : Prop :=
  ∃ h, HD ops H E D h ∧ Rel P m h w ∧ (∀ j, AlAt ops j → D j = false → m (H j).next = none) ∧ Fr m0 (H 0) w0 m h w
theorem Par.begin (p : Par P cf ops H E V) {m : Mp} {w : World} (R : Rel P m (H 0) w) : ParS P ops H E m w (fun _ => false) m w := by
  have hn := p.next (i := 0) (i' := ops.size) (Nat.zero_le _) (Nat.le_refl _)
  have hg : ∀ k, k < (H 0).next → (H ops.size).get k = (H 0).get k := fun k hk => p.stay (Nat.zero_le _) (Nat.le_refl _) hk (fun s _ _ hs => absurd (p.st s k hs) (by omega))
  obtain ⟨R', F'⟩ := R.ext hn hg
  refine ⟨H ops.size, ⟨rfl, hg, fun j _ h => (by cases h), fun s k _ h => (by cases h)⟩, R', fun j hj _ => R.fresh _ (p.next (Nat.zero_le _) (Nat.le_of_lt hj.lt)), F'⟩
theorem Par.stepS (p : Par P cf ops H E V) (hok : ∀ (i : Nat) (o : Oper), ops[i]? = some o → opOK P o.op = true) {m0 : Mp} {w0 : World} {D : Nat → Bool} {i : Nat} {o : Oper} {m : Mp} {w : World} {a : Act} {env : List Value} (ho : ops[i]? = some o) (hDi : D i = false)
    (behind : ∀ (j : Nat) (oj : Oper), ops[j]? = some oj → ((befs ops.toList []).getD j 0).testBit i = true → D j = false) (R : ParS P ops H E m0 w0 D m w) (Er : ERel m env a) (look : ∀ t, t ∈ o.looksAt ops → env[t]? = (E i)[t]?)
    (next : Act → World → Prop) (Q : Exit → Act → World → Prop) (K : ∀ m' w' v', ParS P ops H E m0 w0 (fun j => if j = i then true else D j) m' w' → VR m' (V i) v' → m.le m' → next (a.put o.dst v') w') : o.wp P a w next Q := by
  obtain ⟨h, hd, Rl, hun, F⟩ := R
  have hst := p.op ho
  have hsame : ∀ x, opndOK P x = true → VR m (aEval env x) (a.eval x) := fun x hx => Er.eval Rl x hx
  have hx : ∀ x ∈ o.op.operands, aEval env x = aEval (E i) x := fun x hx => aEval_congr fun t ht => look t (by
    subst ht
    exact List.mem_append_left _ (List.mem_filterMap.2 ⟨.tmp t, by simpa using hx, rfl⟩))
  rcases p.kind i o ho with hr | ⟨e, hop⟩ | ⟨T, ao, vo, hop⟩
  · -- a reader
    have nA : ¬ AlAt ops i := fun ⟨o', e, h1, h2⟩ => by
      rw [ho] at h1; injection h1 with h1; subst h1; rw [h2] at hr; cases hr
    have nS : ∀ k, ¬ StOn ops E i k := fun k ⟨o', T, ao, vo, off, h1, h2, _⟩ => by
      rw [ho] at h1; injection h1 with h1; subst h1; rw [h2] at hr; cases hr
    have h2 : aOp P h o.op (aEval (E i)) = some (V i, h) := rdr_heap hr (fun t x hl => by
      obtain ⟨k, off, e1, e2⟩ := p.rd i o t x ho hl
      refine ⟨k, off, e1, ?_⟩
      rw [hd.old k e2]
      exact (p.stay (Nat.zero_le _) (Nat.le_of_lt (Array.getElem?_eq_some_iff.1 ho).1) e2 (fun s _ _ hs => absurd (p.st s k hs) (by omega))).symm) hst
    have h3 : aOp P h o.op (aEval env) = some (V i, h) := by
      have e1 : aStep P cf o env h = aStep P cf o (E i) h := aStep_congr look h
      have hc : ∀ ρ, aCallee o.op ρ = none := fun ρ => by
        unfold isRdr at hr
        split at hr <;> first | (rename_i hop; rw [hop]; rfl) | cases hr
      unfold aStep at e1
      rw [hc, hc] at e1
      exact e1.trans h2
    obtain ⟨v', hrun, hv⟩ := rdr_sim Rl hr (hok i o ho) hsame h3
    unfold Oper.wp
    rw [hrun]
    refine K m w v' ⟨h, ⟨hd.nx, hd.old, fun j ha hj hs => ?_, fun s k hs hD => ?_⟩, Rl, fun j ha hj => ?_, F⟩ hv (Mp.le_refl m)
    · have hne : j ≠ i := fun e => nA (e ▸ ha)
      (try dsimp only at hj)
      rw [if_neg hne] at hj
      refine hd.zer j ha hj fun s h1 => ?_
      have := hs s h1
      (try dsimp only at this)
      rw [if_neg (show ¬ s = i from fun e => nS _ (e ▸ h1))] at this
      exact this
    · (try dsimp only at hD)
      rw [if_neg (show ¬ s = i from fun e => nS k (e ▸ hs))] at hD
      exact hd.don s k hs hD
    · (try dsimp only at hj)
      rw [if_neg (show ¬ j = i from fun e => nA (e ▸ ha))] at hj
      exact hun j ha hj
  · -- a new block
    obtain ⟨inf, z, hi, hz, hp, h1c, hV, hH⟩ := p.alF ho hop
    have hA : AlAt ops i := ⟨o, e, ho, hop⟩
    have nS : ∀ k, ¬ StOn ops E i k := fun k ⟨o', T, ao, vo, off, h1, h2, _⟩ => by
      rw [ho] at h1; injection h1 with h1; subst h1; rw [hop] at h2; cases h2
    have hlt : (H i).next < h.next := by
      have := p.next (i := i + 1) (i' := ops.size) hA.lt (Nat.le_refl _)
      rw [hH, Heap.next_push] at this
      rw [hd.nx]; omega
    have hvr : VRs m z.cells.toList z.cells.toList := (VR.plain (m := m) 4 z hp).cells
    obtain ⟨R1, F1⟩ := Rl.newAt (hun i hA hDi) hlt (w' := w.alloc (.cells z.cells e)) (c := z.cells) (el := e) (fr := (0, 0)) rfl (cs := z.cells.toList) ⟨w.heap.size, 0, z.cells.size, eszOf P e⟩ rfl rfl rfl rfl (by simp)
      (fun j v hj => by obtain ⟨v', a, b⟩ := hvr.get hj; exact ⟨v', by simpa using a, b⟩) (.inl rfl) (fun j v hj => List.all_eq_true.1 h1c v (List.mem_of_getElem? hj)) rfl rfl rfl
    have hrun : (Instr.alloc e true (.tuple #[])).run P w = .ok (.pointer (some ⟨w.heap.size, 0, none⟩)) (w.alloc (.cells z.cells e)) := by
      have : (newRow e z.cells).run P w = .ok ⟨w.heap.size, 0, none⟩ (w.alloc (.cells z.cells e)) := rfl
      simp [Instr.alloc, run_zeroValue' hi hz, newVar, this]
    have hex : (execOp a.eval o).run P w = .ok (.value (.pointer (some ⟨w.heap.size, 0, none⟩))) (w.alloc (.cells z.cells e)) := by
      unfold execOp; rw [hop]; exact rb hrun rfl
    unfold Oper.wp
    rw [hex]
    have gne : ∀ k, k ≠ (H i).next → (h.set (H i).next (.cells z.cells.toList e false)).get k = h.get k := fun k e => by rw [Heap.get_set, if_neg (fun x => e x.1)]
    have hle : m.le (m.upd (H i).next ⟨w.heap.size, 0, z.cells.size, eszOf P e⟩) := Mp.le_upd _ (hun i hA hDi)
    refine K _ _ _ ⟨h.set (H i).next (.cells z.cells.toList e false), ⟨by rw [Heap.next_set]; exact hd.nx, fun k hk => ?_, fun j ha hj hs => ?_, fun s k hs hD => ?_⟩, R1, fun j ha hj => ?_, F.trans F1⟩ (by rw [hV]; exact VR.ptr0 (Mp.upd_same _ _ _) rfl _ rfl) hle
    · rw [gne k (by have := p.next (i := 0) (i' := i) (Nat.zero_le _) (Nat.le_of_lt hA.lt); omega)]
      exact hd.old k hk
    · by_cases e : j = i
      · subst e
        rw [Heap.get_set, if_pos ⟨rfl, hlt⟩, hH, Heap.get_push, if_pos rfl]
      · (try dsimp only at hj)
        rw [if_neg e] at hj
        rw [gne _ (fun x => e (p.inj ha hA x))]
        refine hd.zer j ha hj fun s h1 => ?_
        have := hs s h1
        (try dsimp only at this)
        rw [if_neg (show ¬ s = i from fun e => nS _ (e ▸ h1))] at this
        exact this
    · (try dsimp only at hD)
      rw [if_neg (show ¬ s = i from fun e => nS k (e ▸ hs))] at hD
      have hne : k ≠ (H i).next := fun e => by
        subst e
        obtain ⟨os, _, _, _, _, hos, _⟩ := id hs
        rw [behind s os hos (p.bit s i hs hA)] at hD; cases hD
      rw [gne k hne]
      exact hd.don s k hs hD
    · by_cases e : j = i
      · (try dsimp only at hj); rw [if_pos e] at hj; cases hj
      · (try dsimp only at hj)
        rw [if_neg e] at hj
        rw [Mp.upd_ne _ _ _ (fun x => e (p.inj ha hA x))]
        exact hun j ha hj
  · -- a store
    obtain ⟨k, off, cs, X, el, hadr, hg, hH, hV, hstore⟩ := p.stF ho hop
    have hS : StOn ops E i k := ⟨o, T, ao, vo, off, ho, hop, hadr⟩
    have nA : ¬ AlAt ops i := fun ⟨o', e, h1, h2⟩ => by
      rw [ho] at h1; injection h1 with h1; subst h1; rw [hop] at h2; cases h2
    have hil : i < ops.size := (Array.getElem?_eq_some_iff.1 ho).1
    have hk0 := p.st i k hS
    have hki : k < (H i).next := Heap.get_lt hg
    obtain ⟨j, hji, hA, hjk⟩ := p.new (Nat.le_of_lt hil) hk0 hki
    have hop2 : o.op.operands = #[ao, vo] := by rw [hop]; rfl
    have ea : aEval env ao = aEval (E i) ao := hx ao (by rw [hop2]; simp)
    have ev : aEval env vo = aEval (E i) vo := hx vo (by rw [hop2]; simp)
    have hall := opndOK_all (hok i o ho)
    have va := hsame ao (hall ao (by rw [hop2]; simp))
    have vv := hsame vo (hall vo (by rw [hop2]; simp))
    -- the block is laid
    have hDj : D j = true := by
      cases hc : D j with
      | true => rfl
      | false =>
        rw [ea, hadr] at va
        obtain ⟨loc, hloc, _⟩ := ptr_inv va
        rw [← hjk, hun j hA hc] at hloc; cases hloc
    have hone : ∀ s, StOn ops E s (H j).next → D s = false := fun s hs => by
      have : s = i := p.dis s i k (hjk ▸ hs) hS
      rw [this]; exact hDi
    have hget : h.get k = (H i).get k := by
      have h1 := hd.zer j hA hDj hone
      rw [hjk] at h1
      rw [h1]
      have hlt : k < (H (j + 1)).next := by
        obtain ⟨o', e', a1, a2⟩ := hA
        obtain ⟨_, _, _, _, _, _, _, h3⟩ := p.alF a1 a2
        rw [h3, Heap.next_push]; omega
      exact (p.stay (by omega) (Nat.le_of_lt hil) hlt (fun s h2 h3 hs => by have := p.dis s i k hs hS; omega)).symm
    have hs2 := hstore h hget
    rw [← ea, ← ev] at hs2
    obtain ⟨w', hr, R', F'⟩ := aStore_sim Rl va vv hs2
    have hex : (execOp a.eval o).run P w = .ok .skip w' := by
      unfold execOp; rw [hop]; exact rb hr rfl
    unfold Oper.wp
    rw [hex]
    have gne : ∀ q, q ≠ k → (h.set k (.cells X el false)).get q = h.get q := fun q e => by rw [Heap.get_set, if_neg (fun x => e x.1)]
    have hkh : k < h.next := by rw [hd.nx]; exact Nat.lt_of_lt_of_le hki (p.next (Nat.le_of_lt hil) (Nat.le_refl _))
    have hfin : (H ops.size).get k = some (.cells X el false) := by
      have h1 : (H (i + 1)).get k = some (.cells X el false) := by rw [hH, Heap.get_set, if_pos ⟨rfl, hki⟩]
      rw [← h1]
      exact p.stay hil (Nat.le_refl _) (by rw [hH, Heap.next_set]; exact hki) (fun s h2 _ hs => by have := p.dis s i k hs hS; omega)
    refine K m w' undef ⟨h.set k (.cells X el false), ⟨by rw [Heap.next_set]; exact hd.nx, fun q hq => ?_, fun j' ha hj hs => ?_, fun s q hs hD => ?_⟩, R', fun j' ha hj => ?_, F.trans F'⟩ (by rw [hV]; exact VR.undef m) (Mp.le_refl m)
    · rw [gne q (by omega)]; exact hd.old q hq
    · have hne : j' ≠ i := fun e => nA (e ▸ ha)
      (try dsimp only at hj)
      rw [if_neg hne] at hj
      have hnk : (H j').next ≠ k := fun e => by
        have := hs i (by rw [e]; exact hS)
        (try dsimp only at this)
        rw [if_pos rfl] at this; cases this
      rw [gne _ hnk]
      refine hd.zer j' ha hj fun s h1 => ?_
      have := hs s h1
      by_cases e : s = i
      · subst e; exact hDi
      · (try dsimp only at this)
        rw [if_neg e] at this; exact this
    · by_cases e : q = k
      · subst e
        rw [Heap.get_set, if_pos ⟨rfl, hkh⟩, hfin]
      · rw [gne q e]
        have hne : s ≠ i := fun e2 => by
          subst e2
          obtain ⟨o1, T1, a1, v1, f1, b1, b2, b3⟩ := hs
          rw [ho] at b1; injection b1 with b1; subst b1
          rw [hop] at b2; injection b2 with _ b2 _; subst b2
          rw [hadr] at b3; injection b3 with b3; injection b3 with b3; injection b3 with b3
          exact e b3.symm
        (try dsimp only at hD)
        rw [if_neg hne] at hD
        exact hd.don s q hs hD
    · (try dsimp only at hj)
      rw [if_neg (show ¬ j' = i from fun e => nA (e ▸ ha))] at hj
      exact hun j' ha hj
end
end Go.AM
