/- The abstract machine, part 9: rows of operations, and one operation as a step of the model's walk. -/
import Derived.Test.YtafnialikielkaaAm8
import Derived.Orders
namespace Go.AM
open Go

def aEval (env : List Value) : Operand → Value
  | .tmp t => env.getD t undef
  | .const v => v
  | .global g => .pointer (some ⟨g, 0, none⟩)
  | .func f => .func (.func f) #[] #[]

def aWanted (ops : Array Oper) (o : Oper) (env : List Value) : Bool :=
  match o.guard with
  | none => true
  | some (j, want) => match (match ops[j]? with | some oj => (match oj.dst with | some d => env[d]? | none => none) | none => none) with
    | some (.bool b) => b == want
    | _ => false

def aPut (env : List Value) (dst : Option Tmp) (v : Value) : List Value :=
  match dst with
  | some d => env.set d v
  | none => env

abbrev CallF := FuncId → List Value → Heap → Option (Value × Heap)

def aStep (P : Program) (cf : CallF) (o : Oper) (env : List Value) (h : Heap) : Option (Value × Heap) :=
  match aCallee o.op (aEval env) with
  | some (g, args) => cf g args h
  | none => aOp P h o.op (aEval env)

def aOps (P : Program) (cf : CallF) (ops : Array Oper) : List Nat → List Value → Heap → Option (List Value × Heap)
  | [], env, h => some (env, h)
  | i :: rest, env, h => match ops[i]? with
    | none => aOps P cf ops rest env h
    | some o => bif aWanted ops o env then
        match aStep P cf o env h with
        | some (v, h') => aOps P cf ops rest (aPut env o.dst v) h'
        | none => none
      else aOps P cf ops rest (aPut env o.dst undef) h

/-- Calls are simulated. -/
def CallSim (P : Program) (cf : CallF) : Prop :=
  ∀ g args h v h', cf g args h = some (v, h') →
    (∃ fn, P.funcs[g]? = some fn ∧ fn.body.isSome = true ∧ (fn.name == "runtime.NumGoroutine") = false) ∧
    ∀ (m : Mp) (w : World) (args' : Array Value), Rel P m h w → VRs m args args'.toList →
      Calls P g args' w fun e w' => ∃ v' m', e = .returned v' ∧ Rel P m' h' w' ∧ VR m' v v' ∧ Fr m h w m' h' w'

structure ERel (m : Mp) (env : List Value) (a : Act) : Prop where
  vs : VRs m env a.tmps.toList
  nodef : a.defers = []

section
variable {P : Program} {m : Mp} {h : Heap} {w : World} {env : List Value} {a : Act}

theorem ERel.mono {m' : Mp} (E : ERel m env a) (hm : m.le m') : ERel m' env a := ⟨E.vs.mono hm, E.nodef⟩

theorem ERel.put (E : ERel m env a) (dst : Option Tmp) {v v' : Value} (hv : VR m v v') : ERel m (aPut env dst v) (a.put dst v') := by
  cases dst with
  | none => exact E
  | some d => exact ⟨by simpa [aPut, Act.put] using E.vs.set hv d, E.nodef⟩

theorem ERel.eval (R : Rel P m h w) (E : ERel m env a) (x : Operand) (hx : opndOK P x = true) : VR m (aEval env x) (a.eval x) := by
  cases x with
  | tmp t =>
    have := E.vs.getD t (VR.undef m)
    simpa [aEval, Act.eval] using this
  | const v => exact VR.plain 6 v hx
  | global g =>
    have hg : g < P.globals.size := by
      simp only [opndOK] at hx
      rcases Nat.lt_or_ge g P.globals.size with h | h
      · exact h
      · rw [blt_false (by omega)] at hx; cases hx
    obtain ⟨loc, h1, h2, h3⟩ := R.glob g hg
    exact VR.ptr0 h1 h3 g h2
  | func f => exact .func _ _ _ _ _ rfl rfl rfl (fun i v v' a _ => by simp at a) (fun i v v' a _ => by simp at a)

theorem wanted_sim (ops : Array Oper) (o : Oper) (E : ERel m env a) : Region.wanted o (yielded ops a.tmps) = aWanted ops o env := by
  unfold Region.wanted aWanted
  cases hgd : o.guard with
  | none => rfl
  | some gw =>
    obtain ⟨j, want⟩ := gw
    dsimp only
    unfold yielded
    cases hj : ops[j]? with
    | none => simp
    | some oj =>
      cases hd : oj.dst with
      | none => simp [hd]
      | some d =>
        simp only [Option.bind_some, hd]
        cases he : env[d]? with
        | none =>
          have : a.tmps[d]? = none := by
            rw [List.getElem?_eq_none_iff] at he
            rw [Array.getElem?_eq_none_iff]
            have := E.vs.1
            simp only [Array.length_toList] at this
            omega
          rw [this]; rfl
        | some v =>
          obtain ⟨v', h1, h2⟩ := E.vs.get he
          rw [Array.getElem?_toList] at h1
          rw [h1]
          cases h2 <;> first | rfl | (rename_i b; cases b <;> cases want <;> rfl)

theorem VRs.arr {l : List Value} {c : Array Value} (hs : l.length = c.size) (h : ∀ (i : Nat) (v v' : Value), l[i]? = some v → c[i]? = some v' → VR m v v') : VRs m l c.toList :=
  ⟨by simpa using hs, fun i v v' a b => h i v v' a (by simpa using b)⟩

/-- A call, to the model. -/
theorem callee_sim (R : Rel P m h w) {o : Oper} {ρ ρ' : Operand → Value} {g : FuncId} {args : List Value} (ho : opOK P o.op = true) (hρ : ∀ x, opndOK P x = true → VR m (ρ x) (ρ' x)) (ha : aCallee o.op ρ = some (g, args))
    (hf : ∃ fn, P.funcs[g]? = some fn ∧ fn.body.isSome = true ∧ (fn.name == "runtime.NumGoroutine") = false) :
    ∃ args' : Array Value, VRs m args args'.toList ∧ (execOp ρ' o).run P w = .ok (.enter g args') w := by
  have hall := opndOK_all ho
  unfold aCallee at ha
  split at ha
  · rename_i f as ts hop
    split at ha
    · rename_i g' first cap hfv
      injection ha with ha; injection ha with e1 e2; subst e1; subst e2
      rw [hop] at hall
      have hv := hρ f (hall f (by simp [Op.operands, Call.operands]))
      rw [hfv] at hv
      have hargs := VRs.map hρ as.toList (fun x hx => hall x (by simp [Op.operands, Call.operands, hx]))
      cases hv' : ρ' f <;> rw [hv'] at hv <;> cases hv
      rename_i f' c' hp hf1 hfs hc1 hcs
      obtain ⟨fn, h1, h2, h3⟩ := hf
      refine ⟨f' ++ as.map ρ' ++ c', ?_, ?_⟩
      · simp only [Array.toList_append, Array.toList_map]
        exact (((VRs.arr (by simpa using hf1) (fun i v v' a b => hfs i v v' (by simpa using a) b)).append hargs).append (VRs.arr (by simpa using hc1) (fun i v v' a b => hcs i v v' (by simpa using a) b)))
      · unfold execOp
        rw [hop]
        dsimp only
        have hres : (resolve ρ' ⟨.value f, as, ts⟩ o.type).run P w = .ok { target := .fn (.func g') c', args := f' ++ as.map ρ' } w := by
          unfold resolve
          simp only [hv', Deferred.ofValue]
          rfl
        refine rb hres ?_
        have hb : fn.body.isNone = false := by cases hfb : fn.body <;> simp_all
        simp only [invoke, callFunc]
        refine rb (a := P) (w1 := w) rfl ?_
        simp only [h1, h3, hb]
        rfl
    · cases ha
  · cases ha

/-- One operation, as a step of the model's walk. -/
theorem aStep_sim {cf : CallF} (CS : CallSim P cf) (R : Rel P m h w) (E : ERel m env a) {o : Oper} (ho : opOK P o.op = true) {v : Value} {h' : Heap} (ha : aStep P cf o env h = some (v, h'))
    {next : Act → World → Prop} {Q : Exit → Act → World → Prop}
    (K : ∀ m' w' v', Rel P m' h' w' → VR m' v v' → Fr m h w m' h' w' → next (a.put o.dst v') w') : o.wp P a w next Q := by
  unfold aStep at ha
  split at ha
  · rename_i g args hc
    obtain ⟨hf, hcall⟩ := CS g args h v h' ha
    obtain ⟨args', hv, hr⟩ := callee_sim R ho (fun x hx => E.eval R x hx) hc hf
    unfold Oper.wp
    rw [hr]
    simp only [Oper.upon]
    refine (hcall m w args' R hv).mono ?_
    rintro e w' ⟨v', m', rfl, R', hv', F⟩
    exact K m' w' v' R' hv' F
  · obtain ⟨nx, v', m', w', hr, hn, R', hv', F⟩ := aOp_sim R ho (fun x hx => E.eval R x hx) ha
    unfold Oper.wp
    rw [hr]
    rcases hn with rfl | ⟨rfl, rfl⟩
    · exact K m' w' v' R' hv' F
    · exact K m' w' undef R' hv' F

/-- A row of operations, in the order of the list. -/
theorem aOps_sim {cf : CallF} (CS : CallSim P cf) (ops : Array Oper) (hok : ∀ (i : Nat) o, ops[i]? = some o → opOK P o.op = true) {Q : Exit → Act → World → Prop} :
    ∀ (l : List Nat) (m : Mp) (h : Heap) (w : World) (env : List Value) (a : Act) (env' : List Value) (h' : Heap), Rel P m h w → ERel m env a → aOps P cf ops l env h = some (env', h') →
      (∀ m' w' a', Rel P m' h' w' → ERel m' env' a' → Fr m h w m' h' w' → Q .normal a' w') → wpOps P ops Q l a w
  | [], m, h, w, env, a, env', h', R, E, ha, K => by
    simp only [aOps] at ha; injection ha with ha; injection ha with e1 e2; subst e1; subst e2
    exact K m w a R E (Fr.refl m h w)
  | i :: rest, m, h, w, env, a, env', h', R, E, ha, K => by
    simp only [aOps] at ha
    simp only [wpOps]
    cases hi : ops[i]? with
    | none =>
      rw [hi] at ha
      exact aOps_sim CS ops hok rest m h w env a env' h' R E ha K
    | some o =>
      rw [hi] at ha
      simp only at ha ⊢
      rw [wanted_sim ops o E]
      cases hw : aWanted ops o env with
      | true =>
        rw [hw] at ha
        simp only [cond_true] at ha
        simp only [if_true]
        split at ha
        · rename_i v h1 hs
          refine .inl (aStep_sim CS R E (hok i o hi) hs fun m1 w1 v' R1 hv1 F1 => ?_)
          exact aOps_sim CS ops hok rest m1 h1 w1 _ _ env' h' R1 ((E.mono F1.le).put o.dst hv1) ha fun m2 w2 a2 R2 E2 F2 => K m2 w2 a2 R2 E2 (F1.trans F2)
        · cases ha
      | false =>
        rw [hw] at ha
        simp only [cond_false] at ha
        simp only [Bool.false_eq_true, if_false]
        exact aOps_sim CS ops hok rest m h w _ _ env' h' R (E.put o.dst (VR.undef m)) ha K
end
end Go.AM
