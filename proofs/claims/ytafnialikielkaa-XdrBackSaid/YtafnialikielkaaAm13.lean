/- The abstract machine, part 13: more rounds come to the same; a calculus over the abstract machine. -/
import Derived.Test.YtafnialikielkaaAm12
namespace Go.AM
open Go

def CLe (cf cf' : CallF) : Prop := ∀ g args h r, cf g args h = some r → cf' g args h = some r

section
variable {P : Program} {cf cf' : CallF}

theorem aStep_mono (hc : CLe cf cf') {o : Oper} {env : List Value} {h : Heap} {r : Value × Heap} (ha : aStep P cf o env h = some r) : aStep P cf' o env h = some r := by
  unfold aStep at ha ⊢
  split at ha
  · exact hc _ _ _ _ ha
  · exact ha

theorem aOps_mono (hc : CLe cf cf') {ops : Array Oper} : ∀ (l : List Nat) (env : List Value) (h : Heap) (r : List Value × Heap), aOps P cf ops l env h = some r → aOps P cf' ops l env h = some r
  | [], env, h, r, ha => ha
  | i :: l, env, h, r, ha => by
    simp only [aOps] at ha ⊢
    split at ha
    · exact aOps_mono hc l env h r ha
    · rename_i o ho
      cases hw : aWanted ops o env with
      | true =>
        rw [hw] at ha
        simp only [cond_true] at ha ⊢
        split at ha
        · rename_i v h1 hs
          rw [aStep_mono hc hs]
          exact aOps_mono hc l _ _ r ha
        · cases ha
      | false =>
        rw [hw] at ha
        simp only [cond_false] at ha ⊢
        exact aOps_mono hc l _ _ r ha

theorem aTrace_mono (hc : CLe cf cf') {ops : Array Oper} : ∀ (l : List Oper) (env : List Value) (h : Heap) (r : List Rec × List Value × Heap), aTrace P cf ops l env h = some r → aTrace P cf' ops l env h = some r
  | [], env, h, r, ha => ha
  | o :: l, env, h, r, ha => by
    simp only [aTrace] at ha ⊢
    cases hw : aWanted ops o env with
    | true =>
      rw [hw] at ha
      simp only [cond_true] at ha ⊢
      split at ha
      · rename_i v h1 hs
        rw [aStep_mono hc hs]
        simp only
        split at ha
        · rename_i rs e hh ht
          rw [aTrace_mono hc l _ _ _ ht]
          exact ha
        · cases ha
      · cases ha
    | false =>
      rw [hw] at ha
      simp only [cond_false] at ha ⊢
      split at ha
      · rename_i rs e hh ht
        rw [aTrace_mono hc l _ _ _ ht]
        exact ha
      · cases ha

theorem aDraw_mono (hc : CLe cf cf') {ops : Array Oper} {env : List Value} {h : Heap} {r : List Value × Heap} (ha : aDraw P cf ops env h = some r) : aDraw P cf' ops env h = some r := by
  unfold aDraw at ha ⊢
  split at ha
  · rename_i recs e hh ht
    rw [aTrace_mono hc _ _ _ _ ht]
    exact ha
  · cases ha

theorem aexec_mono (hc : CLe cf cf') : ∀ (n n' : Nat), n ≤ n' → ∀ (c : Code) (env : List Value) (h : Heap) (r : AX × List Value × Heap), aexec P cf n c env h = some r → aexec P cf' n' c env h = some r := by
  intro n
  induction n with
  | zero => intro n' _ c env h r ha; simp [aexec] at ha
  | succ n ih =>
    intro n' hn c env h r ha
    obtain ⟨k, rfl⟩ : ∃ k, n' = k + 1 := ⟨n' - 1, by omega⟩
    have ih' := ih k (by omega)
    cases c with
    | skip => exact ha
    | label l => exact ha
    | ret => exact ha
    | exit id => exact ha
    | region id ops draw =>
      simp only [aexec] at ha ⊢
      cases draw with
      | true =>
        simp only [cond_true] at ha ⊢
        split at ha
        · rename_i e hh hd; rw [aDraw_mono hc hd]; exact ha
        · cases ha
      | false =>
        simp only [cond_false] at ha ⊢
        split at ha
        · rename_i e hh hd; rw [aOps_mono hc _ _ _ _ hd]; exact ha
        · cases ha
    | seq a b =>
      simp only [aexec] at ha ⊢
      split at ha
      · rename_i e hh hx
        rw [ih' a env h _ hx]
        exact ih' b _ _ _ ha
      · rename_i hne
        cases r with
        | mk ax rest =>
        cases rest with
        | mk e hh =>
        rw [ih' a env h _ ha]
        cases ax with
        | normal => exact absurd ha (hne _ _)
        | exit id => rfl
        | ret => rfl
    | cond c a b =>
      simp only [aexec] at ha ⊢
      split at ha
      · exact ih' a _ _ _ ha
      · exact ih' b _ _ _ ha
      · cases ha
    | block id b =>
      simp only [aexec] at ha ⊢
      split at ha
      · rename_i j e hh hx
        rw [ih' b env h _ hx]
        exact ha
      · rename_i hne
        cases r with
        | mk ax rest =>
        cases rest with
        | mk e hh =>
        rw [ih' b env h _ ha]
        cases ax with
        | exit id => exact absurd ha (hne _ _ _)
        | normal => rfl
        | ret => rfl
    | loop b =>
      simp only [aexec] at ha ⊢
      split at ha
      · rename_i e hh hx
        rw [ih' b env h _ hx]
        exact ih' (.loop b) _ _ _ ha
      · rename_i hne
        cases r with
        | mk ax rest =>
        cases rest with
        | mk e hh =>
        rw [ih' b env h _ ha]
        cases ax with
        | normal => exact absurd ha (hne _ _)
        | exit id => rfl
        | ret => rfl
    | scope b =>
      simp only [aexec] at ha ⊢
      exact ih' b _ _ _ ha
    | rangeFunc f ps as b => simp [aexec] at ha
    | goto l => simp [aexec] at ha
    | refuse why => simp [aexec] at ha

theorem acall_succ : ∀ n, CLe (acall P n) (acall P (n + 1))
  | 0 => fun g args h r ha => by simp [acall] at ha
  | n + 1 => fun g args h r ha => by
    have ih := acall_succ n
    rw [acall] at ha
    rw [acall]
    split at ha
    · rename_i fn hf
      split at ha
      · rename_i body hb
        split at ha
        · rename_i ax env h1 hx
          rw [aexec_mono ih n (n + 1) (by omega) _ _ _ _ hx]
          exact ha
        · cases ha
      · cases ha
    · cases ha

theorem acall_mono {n n' : Nat} (hn : n ≤ n') : CLe (acall P n) (acall P n') := by
  intro g args h r ha
  induction hn with
  | refl => exact ha
  | step _ ih => exact acall_succ _ _ _ _ _ ih
end

/-- A call comes to an end at which Q holds. -/
def Cl (P : Program) (g : FuncId) (args : List Value) (h : Heap) (Q : Value → Heap → Prop) : Prop := ∃ n v h', acall P n g args h = some (v, h') ∧ Q v h'

/-- Code comes to an end at which Q holds. -/
def Wp (P : Program) (c : Code) (Q : AX → List Value → Heap → Prop) (env : List Value) (h : Heap) : Prop :=
  ∃ n ax e h', aexec P (acall P n) n c env h = some (ax, e, h') ∧ Q ax e h'

/-- A row of operations comes to an end at which Q holds. -/
def WOps (P : Program) (ops : Array Oper) (Q : List Value → Heap → Prop) : List Oper → List Value → Heap → Prop
  | [], env, h => Q env h
  | o :: l, env, h => bif aWanted ops o env then
      (match aCallee o.op (aEval env) with
       | some (g, args) => Cl P g args h fun v h' => WOps P ops Q l (aPut env o.dst v) h'
       | none => match aOp P h o.op (aEval env) with
         | some (v, h') => WOps P ops Q l (aPut env o.dst v) h'
         | none => False)
    else WOps P ops Q l (aPut env o.dst undef) h

/-- .. of a region that draws its order: with the records, newest first. -/
def WDraw (P : Program) (ops : Array Oper) (Q : List Rec → List Value → Heap → Prop) : List Oper → List Rec → List Value → Heap → Prop
  | [], acc, env, h => Q acc.reverse env h
  | o :: l, acc, env, h => bif aWanted ops o env then
      (match aCallee o.op (aEval env) with
       | some (g, args) => Cl P g args h fun v h' => WDraw P ops Q l (⟨o, true, env, h, v, h'⟩ :: acc) (aPut env o.dst v) h'
       | none => match aOp P h o.op (aEval env) with
         | some (v, h') => WDraw P ops Q l (⟨o, true, env, h, v, h'⟩ :: acc) (aPut env o.dst v) h'
         | none => False)
    else WDraw P ops Q l (⟨o, false, env, h, undef, h⟩ :: acc) (aPut env o.dst undef) h

section
variable {P : Program} {Q : AX → List Value → Heap → Prop} {env : List Value} {h : Heap}

theorem Cl.mono {g : FuncId} {args : List Value} {Q Q' : Value → Heap → Prop} (hc : Cl P g args h Q) (hq : ∀ v h', Q v h' → Q' v h') : Cl P g args h Q' :=
  let ⟨n, v, h', a, b⟩ := hc; ⟨n, v, h', a, hq _ _ b⟩

theorem Wp.mono {c : Code} {Q' : AX → List Value → Heap → Prop} (hw : Wp P c Q env h) (hq : ∀ ax e h', Q ax e h' → Q' ax e h') : Wp P c Q' env h :=
  let ⟨n, ax, e, h', a, b⟩ := hw; ⟨n, ax, e, h', a, hq _ _ _ b⟩

theorem Wp.skip (hq : Q .normal env h) : Wp P .skip Q env h := ⟨1, .normal, env, h, rfl, hq⟩
theorem Wp.label {l : Nat} (hq : Q .normal env h) : Wp P (.label l) Q env h := ⟨1, .normal, env, h, rfl, hq⟩
theorem Wp.exit {id : Nat} (hq : Q (.exit id) env h) : Wp P (.exit id) Q env h := ⟨1, .exit id, env, h, rfl, hq⟩
theorem Wp.ret (hq : Q .ret env h) : Wp P .ret Q env h := ⟨1, .ret, env, h, rfl, hq⟩

/-- What comes behind. -/
def AX.andThen (next : List Value → Heap → Prop) (Q : AX → List Value → Heap → Prop) : AX → List Value → Heap → Prop
  | .normal, e, h => next e h
  | ax, e, h => Q ax e h

theorem Wp.seq {a b : Code} (hw : Wp P a (AX.andThen (Wp P b Q) Q) env h) : Wp P (.seq a b) Q env h := by
  obtain ⟨n, ax, e, h', h1, h2⟩ := hw
  cases ax with
  | normal =>
    obtain ⟨k, ax2, e2, h2', h3, h4⟩ := h2
    refine ⟨n + k + 1, ax2, e2, h2', ?_, h4⟩
    simp only [aexec]
    rw [aexec_mono (acall_mono (show n ≤ n + k + 1 by omega)) n (n + k) (by omega) _ _ _ _ h1]
    exact aexec_mono (acall_mono (show k ≤ n + k + 1 by omega)) k (n + k) (by omega) _ _ _ _ h3
  | exit id =>
    refine ⟨n + 1, .exit id, e, h', ?_, h2⟩
    simp only [aexec]
    rw [aexec_mono (acall_mono (show n ≤ n + 1 by omega)) n n (by omega) _ _ _ _ h1]
  | ret =>
    refine ⟨n + 1, .ret, e, h', ?_, h2⟩
    simp only [aexec]
    rw [aexec_mono (acall_mono (show n ≤ n + 1 by omega)) n n (by omega) _ _ _ _ h1]

theorem Wp.cond_true {c : Operand} {a b : Code} (hc : aEval env c = .bool true) (hw : Wp P a Q env h) : Wp P (.cond c a b) Q env h := by
  obtain ⟨n, ax, e, h', h1, h2⟩ := hw
  refine ⟨n + 1, ax, e, h', ?_, h2⟩
  simp only [aexec, hc]
  exact aexec_mono (acall_mono (by omega)) n n (by omega) _ _ _ _ h1
theorem Wp.cond_false {c : Operand} {a b : Code} (hc : aEval env c = .bool false) (hw : Wp P b Q env h) : Wp P (.cond c a b) Q env h := by
  obtain ⟨n, ax, e, h', h1, h2⟩ := hw
  refine ⟨n + 1, ax, e, h', ?_, h2⟩
  simp only [aexec, hc]
  exact aexec_mono (acall_mono (by omega)) n n (by omega) _ _ _ _ h1
theorem Wp.cond {c : Operand} {a b : Code} {t : Bool} (hc : aEval env c = .bool t) (ht : t = true → Wp P a Q env h) (hf : t = false → Wp P b Q env h) : Wp P (.cond c a b) Q env h := by
  cases t
  · exact .cond_false hc (hf rfl)
  · exact .cond_true hc (ht rfl)

def AX.inBlock (id : Nat) (Q : AX → List Value → Heap → Prop) : AX → List Value → Heap → Prop
  | .exit j, e, h => if j = id then Q .normal e h else Q (.exit j) e h
  | ax, e, h => Q ax e h

theorem Wp.block {id : Nat} {b : Code} (hw : Wp P b (AX.inBlock id Q) env h) : Wp P (.block id b) Q env h := by
  obtain ⟨n, ax, e, h', h1, h2⟩ := hw
  have h1' := aexec_mono (acall_mono (show n ≤ n + 1 by omega)) n n (by omega) _ _ _ _ h1
  cases ax with
  | normal => exact ⟨n + 1, .normal, e, h', by simp only [aexec]; rw [h1'], h2⟩
  | ret => exact ⟨n + 1, .ret, e, h', by simp only [aexec]; rw [h1'], h2⟩
  | exit j =>
    simp only [AX.inBlock] at h2
    by_cases hj : j = id
    · rw [if_pos hj] at h2
      refine ⟨n + 1, .normal, e, h', ?_, h2⟩
      simp only [aexec]; rw [h1']
      subst hj
      simp
    · rw [if_neg hj] at h2
      refine ⟨n + 1, .exit j, e, h', ?_, h2⟩
      simp only [aexec]; rw [h1']
      have : Nat.beq j id = false := by
        cases hb : Nat.beq j id with
        | false => rfl
        | true => exact absurd (Nat.eq_of_beq_eq_true hb) hj
      simp only [this]; rfl

theorem Wp.scope {b : Code} (hw : Wp P b Q env h) : Wp P (.scope b) Q env h := by
  obtain ⟨n, ax, e, h', h1, h2⟩ := hw
  exact ⟨n + 1, ax, e, h', by simp only [aexec]; exact aexec_mono (acall_mono (by omega)) n n (by omega) _ _ _ _ h1, h2⟩

theorem Wp.round {b : Code} (hw : Wp P b (AX.andThen (Wp P (.loop b) Q) Q) env h) : Wp P (.loop b) Q env h := by
  obtain ⟨n, ax, e, h', h1, h2⟩ := hw
  cases ax with
  | normal =>
    obtain ⟨k, ax2, e2, h2', h3, h4⟩ := h2
    refine ⟨n + k + 1, ax2, e2, h2', ?_, h4⟩
    simp only [aexec]
    rw [aexec_mono (acall_mono (show n ≤ n + k + 1 by omega)) n (n + k) (by omega) _ _ _ _ h1]
    exact aexec_mono (acall_mono (show k ≤ n + k + 1 by omega)) k (n + k) (by omega) _ _ _ _ h3
  | exit id =>
    refine ⟨n + 1, .exit id, e, h', ?_, h2⟩
    simp only [aexec]
    rw [aexec_mono (acall_mono (show n ≤ n + 1 by omega)) n n (by omega) _ _ _ _ h1]
  | ret =>
    refine ⟨n + 1, .ret, e, h', ?_, h2⟩
    simp only [aexec]
    rw [aexec_mono (acall_mono (show n ≤ n + 1 by omega)) n n (by omega) _ _ _ _ h1]

theorem Wp.loop {b : Code} (I : Nat → List Value → Heap → Prop) (n : Nat) (h0 : I n env h)
    (hr : ∀ n e hh, I n e hh → Wp P b (AX.andThen (fun e' h' => ∃ k, k < n ∧ I k e' h') Q) e hh) : Wp P (.loop b) Q env h := by
  induction n using Nat.strongRecOn generalizing env h with
  | _ n ih =>
    refine Wp.round ((hr n env h h0).mono fun ax e h' hq => ?_)
    cases ax with
    | normal => obtain ⟨k, hk, hI⟩ := hq; exact ih k hk hI
    | exit id => exact hq
    | ret => exact hq

/-- What a row of operations comes to, as a run. -/
theorem WOps.run {ops : Array Oper} {Q : List Value → Heap → Prop} : ∀ (l : List Nat) (env : List Value) (h : Heap), (∀ i ∈ l, i < ops.size) → WOps P ops Q (l.filterMap fun i => ops[i]?) env h →
    ∃ n e h', aOps P (acall P n) ops l env h = some (e, h') ∧ Q e h'
  | [], env, h, _, hw => ⟨0, env, h, rfl, hw⟩
  | i :: l, env, h, hl, hw => by
    have hi : i < ops.size := hl i (by simp)
    have ho : ops[i]? = some ops[i] := Array.getElem?_eq_getElem hi
    simp only [List.filterMap_cons, ho] at hw
    have hl' : ∀ j ∈ l, j < ops.size := fun j hj => hl j (by simp [hj])
    unfold WOps at hw
    cases hwd : aWanted ops ops[i] env with
    | true =>
      rw [hwd] at hw
      simp only [cond_true] at hw
      split at hw
      · rename_i g args hc
        obtain ⟨n, v, h1, h2, h3⟩ := hw
        obtain ⟨k, e, h', h4, h5⟩ := WOps.run l _ _ hl' h3
        refine ⟨n + k, e, h', ?_, h5⟩
        simp only [aOps, ho, hwd, cond_true, aStep, hc]
        rw [acall_mono (show n ≤ n + k by omega) _ _ _ _ h2]
        exact aOps_mono (acall_mono (show k ≤ n + k by omega)) _ _ _ _ h4
      · rename_i hc
        split at hw
        · rename_i v h1 ha
          obtain ⟨k, e, h', h4, h5⟩ := WOps.run l _ _ hl' hw
          refine ⟨k, e, h', ?_, h5⟩
          simp only [aOps, ho, hwd, cond_true, aStep, hc, ha]
          exact h4
        · exact hw.elim
    | false =>
      rw [hwd] at hw
      simp only [cond_false] at hw
      obtain ⟨k, e, h', h4, h5⟩ := WOps.run l _ _ hl' hw
      refine ⟨k, e, h', ?_, h5⟩
      simp only [aOps, ho, hwd, cond_false]
      exact h4

theorem range_filterMap (ops : Array Oper) : ((List.range ops.size).filterMap fun i => ops[i]?) = ops.toList := by
  apply List.ext_getElem?
  intro j
  have : ∀ n, n ≤ ops.size → ((List.range n).filterMap fun i => ops[i]?) = ops.toList.take n := by
    intro n
    induction n with
    | zero => intro _; simp
    | succ n ih =>
      intro hn
      rw [List.range_succ, List.filterMap_append, ih (by omega)]
      have ho : ops[n]? = some ops[n] := Array.getElem?_eq_getElem (by omega)
      simp only [List.filterMap_cons, ho, List.filterMap_nil]
      rw [List.take_succ_eq_append_getElem (by simpa using (by omega : n < ops.size))]
      simp
  rw [this ops.size (Nat.le_refl _)]
  congr 1
  exact List.take_of_length_le (by simp)

theorem Wp.region {id : Nat} {ops : Array Oper} (hw : WOps P ops (Q .normal) ops.toList env h) : Wp P (.region id ops false) Q env h := by
  rw [← range_filterMap] at hw
  obtain ⟨n, e, h', h1, h2⟩ := WOps.run _ env h (fun i hi => List.mem_range.1 hi) hw
  refine ⟨n + 1, .normal, e, h', ?_, h2⟩
  simp only [aexec, cond_false]
  rw [aOps_mono (acall_mono (show n ≤ n + 1 by omega)) _ _ _ _ h1]
  rfl

theorem WDraw.run {ops : Array Oper} {Q : List Rec → List Value → Heap → Prop} : ∀ (l : List Oper) (acc : List Rec) (env : List Value) (h : Heap), WDraw P ops Q l acc env h →
    ∃ n recs e h', aTrace P (acall P n) ops l env h = some (recs, e, h') ∧ Q (acc.reverse ++ recs) e h'
  | [], acc, env, h, hw => ⟨0, [], env, h, rfl, by simpa [WDraw] using hw⟩
  | o :: l, acc, env, h, hw => by
    unfold WDraw at hw
    cases hwd : aWanted ops o env with
    | true =>
      rw [hwd] at hw
      simp only [cond_true] at hw
      split at hw
      · rename_i g args hc
        obtain ⟨n, v, h1, h2, h3⟩ := hw
        obtain ⟨k, recs, e, h', h4, h5⟩ := WDraw.run l _ _ _ h3
        refine ⟨n + k, _ :: recs, e, h', ?_, by simpa using h5⟩
        simp only [aTrace, hwd, cond_true, aStep, hc]
        rw [acall_mono (show n ≤ n + k by omega) _ _ _ _ h2]
        simp only
        rw [aTrace_mono (acall_mono (show k ≤ n + k by omega)) _ _ _ _ h4]
      · rename_i hc
        split at hw
        · rename_i v h1 ha
          obtain ⟨k, recs, e, h', h4, h5⟩ := WDraw.run l _ _ _ hw
          refine ⟨k, _ :: recs, e, h', ?_, by simpa using h5⟩
          simp only [aTrace, hwd, cond_true, aStep, hc, ha]
          rw [h4]
        · exact hw.elim
    | false =>
      rw [hwd] at hw
      simp only [cond_false] at hw
      obtain ⟨k, recs, e, h', h4, h5⟩ := WDraw.run l _ _ _ hw
      refine ⟨k, _ :: recs, e, h', ?_, by simpa using h5⟩
      simp only [aTrace, hwd, cond_false]
      rw [h4]

theorem Wp.draw {id : Nat} {ops : Array Oper} (hw : WDraw P ops (fun recs e h' => readsOK P (befs ops.toList []) recs recs 0 = true ∧ Q .normal e h') ops.toList [] env h) : Wp P (.region id ops true) Q env h := by
  obtain ⟨n, recs, e, h', h1, h2, h3⟩ := WDraw.run _ _ env h hw
  simp only [List.reverse_nil, List.nil_append] at h2
  refine ⟨n + 1, .normal, e, h', ?_, h3⟩
  simp only [aexec, cond_true, aDraw]
  rw [aTrace_mono (acall_mono (show n ≤ n + 1 by omega)) _ _ _ _ h1]
  simp only [h2]
  rfl

/-- A call by its text. -/
theorem Cl.of {g : FuncId} {fn : Func} {body : Code} {args : List Value} {Q : Value → Heap → Prop} (hf : P.funcs[g]? = some fn) (hb : fn.body = some body)
    (hw : Wp P body (fun ax e h' => match ax with
      | .exit _ => False
      | _ => match aResults P fn h' e with
        | some v => Q v h'
        | none => False) (args ++ List.replicate (fn.ntmps - args.length) undef) h) : Cl P g args h Q := by
  obtain ⟨n, ax, e, h', h1, h2⟩ := hw
  cases ax with
  | exit id => exact h2.elim
  | normal =>
    simp only at h2
    split at h2
    · rename_i v hv
      refine ⟨n + 1, v, h', ?_, h2⟩
      rw [acall]
      simp only [hf, hb]
      rw [h1]
      simp only [hv]
    · exact h2.elim
  | ret =>
    simp only at h2
    split at h2
    · rename_i v hv
      refine ⟨n + 1, v, h', ?_, h2⟩
      rw [acall]
      simp only [hf, hb]
      rw [h1]
      simp only [hv]
    · exact h2.elim

/-- From the abstract machine to the model. -/
theorem Cl.calls (G : Good P) {m : Mp} {w : World} {g : FuncId} {args : List Value} {args' : Array Value} {Q : Value → Heap → Prop} (R : Rel P m h w) (hv : VRs m args args'.toList) (hc : Cl P g args h Q) :
    Calls P g args' w fun e w' => ∃ v h' v' m', Q v h' ∧ e = .returned v' ∧ Rel P m' h' w' ∧ VR m' v v' ∧ Fr m h w m' h' w' := by
  obtain ⟨n, v, h', h1, h2⟩ := hc
  refine ((acall_sim G n g args h v h' h1).2 m w args' R hv).mono ?_
  rintro e w' ⟨v', m', he, R', hv', F⟩
  exact ⟨v, h', v', m', h2, he, R', hv', F⟩
end
end Go.AM
