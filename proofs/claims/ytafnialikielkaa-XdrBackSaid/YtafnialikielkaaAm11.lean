/- The abstract machine, part 11: the machine itself (drawn regions, code, calls), and that what it comes to the model comes to. -/
import Derived.Test.YtafnialikielkaaAm10
import Derived.LoopN
import Derived.Scope
namespace Go.AM
open Go

def all2 (f : Value → Value → Bool) : List Value → List Value → Bool
  | [], [] => true
  | x :: xs, y :: ys => f x y && all2 f xs ys
  | _, _ => false

/-- Are two values surely the same? -/
def veqB : Nat → Value → Value → Bool
  | 0, _, _ => false
  | n + 1, x, y => match x, y with
    | .bool a, .bool b => a == b
    | .int k a, .int k' b => decide (k = k') && decide (a = b)
    | .string a, .string b => a.data.toList == b.data.toList
    | .pointer a, .pointer b => decide (a = b)
    | .slice a l c, .slice a' l' c' => decide (a = a') && Nat.beq l l' && Nat.beq c c'
    | .map a, .map b => decide (a = b)
    | .nilFunc, .nilFunc => true
    | .nilIface, .nilIface => true
    | .iface t v, .iface t' v' => Nat.beq t t' && veqB n v v'
    | .agg a, .agg b => all2 (veqB n) a.toList b.toList
    | .tuple a, .tuple b => all2 (veqB n) a.toList b.toList
    | .func f a b, .func f' a' b' => decide (f = f') && all2 (veqB n) a.toList a'.toList && all2 (veqB n) b.toList b'.toList
    | _, _ => false

theorem all2_eq {f : Value → Value → Bool} (hf : ∀ x y, f x y = true → x = y) : ∀ l l' : List Value, all2 f l l' = true → l = l'
  | [], [], _ => rfl
  | x :: xs, y :: ys, h => by
    simp only [all2, Bool.and_eq_true] at h
    rw [hf x y h.1, all2_eq hf xs ys h.2]
  | [], _ :: _, h => by simp [all2] at h
  | _ :: _, [], h => by simp [all2] at h

theorem bytes_inj {a b : ByteArray} (h : a.data.toList = b.data.toList) : a = b := by
  cases a; cases b
  simp only at h
  congr 1
  exact Array.toList_inj.1 h

theorem veqB_eq : ∀ (n : Nat) (x y : Value), veqB n x y = true → x = y
  | 0, _, _, h => by simp [veqB] at h
  | n + 1, x, y, h => by
    have ih := veqB_eq n
    unfold veqB at h
    split at h
    · simp only [beq_iff_eq] at h; rw [h]
    · simp only [Bool.and_eq_true, decide_eq_true_eq] at h; rw [h.1, h.2]
    · simp only [beq_iff_eq] at h; rw [bytes_inj h]
    · simp only [decide_eq_true_eq] at h; rw [h]
    · simp only [Bool.and_eq_true, decide_eq_true_eq] at h
      rw [h.1.1, Nat.eq_of_beq_eq_true h.1.2, Nat.eq_of_beq_eq_true h.2]
    · simp only [decide_eq_true_eq] at h; rw [h]
    · rfl
    · rfl
    · simp only [Bool.and_eq_true] at h; rw [Nat.eq_of_beq_eq_true h.1, ih _ _ h.2]
    · rw [Array.toList_inj.1 (all2_eq ih _ _ h)]
    · rw [Array.toList_inj.1 (all2_eq ih _ _ h)]
    · simp only [Bool.and_eq_true, decide_eq_true_eq] at h
      rw [h.1.1, Array.toList_inj.1 (all2_eq ih _ _ h.1.2), Array.toList_inj.1 (all2_eq ih _ _ h.2)]
    · cases h

/-- What an operation did. -/
structure Rec where
  o : Oper
  w : Bool
  env : List Value
  h : Heap
  v : Value
  h' : Heap

def aTrace (P : Program) (cf : CallF) (ops : Array Oper) : List Oper → List Value → Heap → Option (List Rec × List Value × Heap)
  | [], env, h => some ([], env, h)
  | o :: rest, env, h => bif aWanted ops o env then
      match aStep P cf o env h with
      | some (v, h') => match aTrace P cf ops rest (aPut env o.dst v) h' with
        | some (l, e, hh) => some (⟨o, true, env, h, v, h'⟩ :: l, e, hh)
        | none => none
      | none => none
    else match aTrace P cf ops rest (aPut env o.dst undef) h with
      | some (l, e, hh) => some (⟨o, false, env, h, undef, h⟩ :: l, e, hh)
      | none => none

def isReader (o : Op) : Bool :=
  match o with
  | .load _ _ | .convert _ _ _ | .slice _ _ _ _ _ => true
  | _ => false

def sameAt (P : Program) (r : Rec) (h : Heap) : Bool :=
  match aOp P h r.o.op (aEval r.env) with
  | some (v', _) => veqB 6 v' r.v
  | none => false

def readOK (P : Program) (b : List Nat) (i : Nat) (r : Rec) : List Rec → Nat → Bool
  | [], _ => true
  | rq :: l, q => (bif isEff P rq.o.op then
      (bif Nat.blt i q then (b.getD q 0).testBit i || sameAt P r rq.h' else
       bif Nat.blt q i then (b.getD i 0).testBit q || sameAt P r rq.h else true) else true) && readOK P b i r l (q + 1)

def readsOK (P : Program) (b : List Nat) (all : List Rec) : List Rec → Nat → Bool
  | [], _ => true
  | r :: l, i => (bif r.w && isReader r.o.op && !(isEff P r.o.op) then readOK P b i r all 0 else true) && readsOK P b all l (i + 1)

def aDraw (P : Program) (cf : CallF) (ops : Array Oper) (env : List Value) (h : Heap) : Option (List Value × Heap) :=
  match aTrace P cf ops ops.toList env h with
  | some (recs, e, hh) => bif readsOK P (befs ops.toList []) recs recs 0 then some (e, hh) else none
  | none => none

inductive AX where
  | normal
  | exit (id : Nat)
  | ret

def aexec (P : Program) (cf : CallF) : Nat → Code → List Value → Heap → Option (AX × List Value × Heap)
  | 0, _, _, _ => none
  | n + 1, c, env, h => match c with
    | .skip => some (.normal, env, h)
    | .label _ => some (.normal, env, h)
    | .region _ ops draw => match (bif draw then aDraw P cf ops env h else aOps P cf ops (List.range ops.size) env h) with
      | some (e, hh) => some (.normal, e, hh)
      | none => none
    | .seq a b => match aexec P cf n a env h with
      | some (.normal, e, hh) => aexec P cf n b e hh
      | r => r
    | .cond c a b => match aEval env c with
      | .bool true => aexec P cf n a env h
      | .bool false => aexec P cf n b env h
      | _ => none
    | .block id b => match aexec P cf n b env h with
      | some (.exit j, e, hh) => bif Nat.beq j id then some (.normal, e, hh) else some (.exit j, e, hh)
      | r => r
    | .loop b => match aexec P cf n b env h with
      | some (.normal, e, hh) => aexec P cf n (.loop b) e hh
      | r => r
    | .exit id => some (.exit id, env, h)
    | .scope b => aexec P cf n b env h
    | .ret => some (.ret, env, h)
    | _ => none

def aRes (P : Program) (h : Heap) (env : List Value) : List ResultVar → Option (List Value)
  | [] => some []
  | r :: l => match (match r with
      | .tmp t => some (env.getD t undef)
      | .cell a t => aLoad P h t (env.getD a undef)) with
    | some v => match aRes P h env l with
      | some vs => some (v :: vs)
      | none => none
    | none => none

def aResults (P : Program) (fn : Func) (h : Heap) (env : List Value) : Option Value :=
  match aRes P h env fn.results.toList with
  | some [v] => some v
  | some vs => some (.tuple vs.toArray)
  | none => none

def acall (P : Program) : Nat → CallF
  | 0, _, _, _ => none
  | n + 1, g, args, h => match P.funcs[g]? with
    | some fn => match fn.body with
      | some body => match aexec P (acall P n) n body (args ++ List.replicate (fn.ntmps - args.length) undef) h with
        | some (ax, env, h') => match ax with
          | .exit _ => none
          | _ => match aResults P fn h' env with
            | some v => some (v, h')
            | none => none
        | none => none
      | none => none
    | none => none

/-- What is asked of a function's text. -/
def codeOK (P : Program) : Code → Bool
  | .region _ ops draw => ops.toList.all (fun o => opOK P o.op) && (!draw || statOK P ops)
  | .seq a b => codeOK P a && codeOK P b
  | .cond c a b => opndOK P c && codeOK P a && codeOK P b
  | .block _ b => codeOK P b
  | .loop b => codeOK P b
  | .scope b => codeOK P b
  | _ => true

structure Good (P : Program) : Prop where
  mixed : P.follows .mixedOrders = true
  code : ∀ (g : Nat) fn body, P.funcs[g]? = some fn → fn.body = some body → codeOK P body = true ∧ (fn.name == "runtime.NumGoroutine") = false

def goodB (P : Program) : Bool := P.funcs.toList.all fun fn => match fn.body with
  | some body => codeOK P body && !(fn.name == "runtime.NumGoroutine")
  | none => true

theorem Good.of {P : Program} (h1 : P.follows .mixedOrders = true) (h2 : goodB P = true) : Good P := by
  refine ⟨h1, fun g fn body hg hb => ?_⟩
  have := List.all_eq_true.1 h2 fn (by rw [Array.mem_toList_iff]; exact Array.mem_of_getElem? hg)
  simp only [hb, Bool.and_eq_true, Bool.not_eq_true'] at this
  exact this

section
variable {P : Program} {cf : CallF} {ops : Array Oper}

theorem indep {o : Op} {ρ : Operand → Value} {h h' : Heap} {v : Value} (he : isEff P o = false) (hr : isReader o = false) (ha : aOp P h o ρ = some (v, h')) (h2 : Heap) : aOp P h2 o ρ = some (v, h2) := by
  have hh := isEff_heap he ha
  subst hh
  unfold aOp at ha ⊢
  split at ha
  case h_1 => injection ha with ha; injection ha with e _; rw [e]
  case h_2 => injection ha with ha; injection ha with e _; rw [e]
  case h_3 => split at ha
              · injection ha with ha; injection ha with e _; rw [e]
              · cases ha
  case h_4 => simp [isEff] at he
  case h_5 => simp [isEff] at he
  case h_6 => rw [(withH_some ha).1]; rfl
  case h_7 => simp [isEff] at he
  case h_8 => simp [isReader] at hr
  case h_9 => simp [isEff] at he
  case h_10 => split at ha
               · injection ha with ha; injection ha with e _; rw [e]
               · cases ha
  case h_11 => rw [(withH_some ha).1]; rfl
  case h_12 => rw [(withH_some ha).1]; rfl
  case h_13 => simp [isReader] at hr
  case h_14 => simp [isEff] at he
  case h_15 => simp [isReader] at hr
  case h_16 => rw [(withH_some ha).1]; rfl
  case h_17 => rw [(withH_some ha).1]; rfl
  case h_18 => rw [(withH_some ha).1]; rfl
  case h_19 => rw [(withH_some ha).1]; rfl
  case h_20 => rw [(withH_some ha).1]; rfl
  case h_21 =>
    unfold aBuiltin at ha ⊢
    split at ha
    case h_1 => simp [isEff] at he
    case h_2 => simp [isEff] at he
    case h_3 => split at ha
                · injection ha with ha; injection ha with e _; subst e; rfl
                · cases ha
    case h_4 => split at ha
                · injection ha with ha; injection ha with e _; subst e; rfl
                · cases ha
    case h_5 => split at ha
                · injection ha with ha; injection ha with e _; subst e; rfl
                · cases ha
    case h_6 => split at ha
                · injection ha with ha; injection ha with e _; subst e; rfl
                · cases ha
    case h_7 => cases ha
  case h_22 => cases ha

/-- The trace as functions of the place. -/
def trH (recs : List Rec) (hh : Heap) (i : Nat) : Heap := match recs[i]? with
  | some r => r.h
  | none => hh
def trE (recs : List Rec) (e : List Value) (i : Nat) : List Value := match recs[i]? with
  | some r => r.env
  | none => e
def trV (recs : List Rec) (i : Nat) : Value := match recs[i]? with
  | some r => r.v
  | none => undef

theorem aTrace_spec : ∀ (l : List Oper) (env : List Value) (h : Heap) (recs : List Rec) (e : List Value) (hh : Heap), aTrace P cf ops l env h = some (recs, e, hh) →
    recs.length = l.length ∧ trH recs hh 0 = h ∧ trE recs e 0 = env ∧
    ∀ i o, l[i]? = some o → ∃ r, recs[i]? = some r ∧ r.o = o ∧ r.w = aWanted ops o (trE recs e i) ∧ r.h' = trH recs hh (i + 1) ∧
      (r.w = true → aStep P cf o (trE recs e i) (trH recs hh i) = some (trV recs i, trH recs hh (i + 1))) ∧ (r.w = false → trV recs i = undef ∧ trH recs hh (i + 1) = trH recs hh i) ∧
      trE recs e (i + 1) = aPut (trE recs e i) o.dst (trV recs i)
  | [], env, h, recs, e, hh, ha => by
    simp only [aTrace] at ha
    injection ha with ha; injection ha with e1 e2; injection e2 with e2 e3
    subst e1; subst e2; subst e3
    exact ⟨rfl, rfl, rfl, fun i o h => by simp at h⟩
  | x :: l, env, h, recs, e, hh, ha => by
    have shift : ∀ (r : Rec) (rs : List Rec) (i : Nat), trH (r :: rs) hh (i + 1) = trH rs hh i ∧ trE (r :: rs) e (i + 1) = trE rs e i ∧ trV (r :: rs) (i + 1) = trV rs i := fun r rs i => by
      simp [trH, trE, trV]
    simp only [aTrace] at ha
    cases hw : aWanted ops x env with
    | true =>
      rw [hw] at ha
      simp only [cond_true] at ha
      split at ha
      · rename_i v h1 hs
        split at ha
        · rename_i rs e' hh' ht
          injection ha with ha; injection ha with e1 e2; injection e2 with e2 e3
          subst e1; subst e2; subst e3
          obtain ⟨i1, i2, i3, i4⟩ := aTrace_spec l _ _ rs e' hh' ht
          refine ⟨by simp [i1], rfl, rfl, fun i o ho => ?_⟩
          cases i with
          | zero =>
            simp at ho; subst ho
            have s0 := shift ⟨x, true, env, h, v, h1⟩ rs 0
            refine ⟨_, rfl, rfl, ?_, ?_, ?_, ?_, ?_⟩
            · show true = aWanted ops x env; rw [hw]
            · rw [s0.1, i2]
            · intro _; rw [s0.1, i2]; exact hs
            · intro h; cases h
            · rw [s0.2.1, i3]; rfl
          | succ i =>
            obtain ⟨r, r1, r2, r3, r4, r5, r6, r7⟩ := i4 i o (by simpa using ho)
            have s0 := shift ⟨x, true, env, h, v, h1⟩ rs i
            have s1 := shift ⟨x, true, env, h, v, h1⟩ rs (i + 1)
            refine ⟨r, by simpa using r1, r2, ?_, ?_, ?_, ?_, ?_⟩
            · rw [s0.2.1]; exact r3
            · rw [s1.1]; exact r4
            · rw [s0.1, s0.2.1, s0.2.2, s1.1]; exact r5
            · rw [s0.1, s0.2.2, s1.1]; exact r6
            · rw [s0.2.1, s0.2.2, s1.2.1]; exact r7
        · cases ha
      · cases ha
    | false =>
      rw [hw] at ha
      simp only [cond_false] at ha
      split at ha
      · rename_i rs e' hh' ht
        injection ha with ha; injection ha with e1 e2; injection e2 with e2 e3
        subst e1; subst e2; subst e3
        obtain ⟨i1, i2, i3, i4⟩ := aTrace_spec l _ _ rs e' hh' ht
        refine ⟨by simp [i1], rfl, rfl, fun i o ho => ?_⟩
        cases i with
        | zero =>
          simp at ho; subst ho
          have s0 := shift ⟨x, false, env, h, undef, h⟩ rs 0
          refine ⟨_, rfl, rfl, ?_, ?_, ?_, ?_, ?_⟩
          · show false = aWanted ops x env; rw [hw]
          · rw [s0.1, i2]
          · intro h; cases h
          · intro _; rw [s0.1, i2]; exact ⟨rfl, rfl⟩
          · rw [s0.2.1, i3]; rfl
        | succ i =>
          obtain ⟨r, r1, r2, r3, r4, r5, r6, r7⟩ := i4 i o (by simpa using ho)
          have s0 := shift ⟨x, false, env, h, undef, h⟩ rs i
          have s1 := shift ⟨x, false, env, h, undef, h⟩ rs (i + 1)
          refine ⟨r, by simpa using r1, r2, ?_, ?_, ?_, ?_, ?_⟩
          · rw [s0.2.1]; exact r3
          · rw [s1.1]; exact r4
          · rw [s0.1, s0.2.1, s0.2.2, s1.1]; exact r5
          · rw [s0.1, s0.2.2, s1.1]; exact r6
          · rw [s0.2.1, s0.2.2, s1.2.1]; exact r7
      · cases ha

theorem readOK_at {b : List Nat} {i : Nat} {r : Rec} : ∀ (l : List Rec) (s : Nat), readOK P b i r l s = true → ∀ k rq, l[k]? = some rq → isEff P rq.o.op = true →
    (i < s + k → (b.getD (s + k) 0).testBit i = false → sameAt P r rq.h' = true) ∧ (s + k < i → (b.getD i 0).testBit (s + k) = false → sameAt P r rq.h = true) := by
  intro l
  induction l with
  | nil => intro s h k rq hk; simp at hk
  | cons x l ih =>
    intro s h k rq hk he
    simp only [readOK, Bool.and_eq_true] at h
    obtain ⟨h1, h2⟩ := h
    cases k with
    | zero =>
      simp only [List.getElem?_cons_zero, Option.some.injEq] at hk
      subst hk
      rw [he, cond_true] at h1
      rw [Nat.add_zero]
      constructor
      · intro hlt hb
        rw [blt_true hlt, cond_true, hb, Bool.false_or] at h1
        exact h1
      · intro hlt hb
        rw [blt_false (by omega), cond_false, blt_true hlt, cond_true, hb, Bool.false_or] at h1
        exact h1
    | succ k =>
      have := ih (s + 1) h2 k rq (by simpa using hk) he
      rw [show s + 1 + k = s + (k + 1) by omega] at this
      exact this

theorem readsOK_at {b : List Nat} {all : List Rec} : ∀ (l : List Rec) (s : Nat), readsOK P b all l s = true → ∀ k r, l[k]? = some r → r.w = true → isReader r.o.op = true → isEff P r.o.op = false → readOK P b (s + k) r all 0 = true := by
  intro l
  induction l with
  | nil => intro s h k r hk; simp at hk
  | cons x l ih =>
    intro s h k r hk hw hr he
    simp only [readsOK, Bool.and_eq_true] at h
    obtain ⟨h1, h2⟩ := h
    cases k with
    | zero =>
      simp only [List.getElem?_cons_zero, Option.some.injEq] at hk
      subst hk
      rw [hw, hr, he] at h1
      simpa using h1
    | succ k =>
      have := ih (s + 1) h2 k r (by simpa using hk) hw hr he
      rw [show s + 1 + k = s + (k + 1) by omega] at this
      exact this

theorem sameAt_eq {r : Rec} {h : Heap} (hs : sameAt P r h = true) : ∃ H', aOp P h r.o.op (aEval r.env) = some (r.v, H') := by
  unfold sameAt at hs
  split at hs
  · rename_i v' h' ha
    rw [veqB_eq 6 _ _ hs] at ha
    exact ⟨h', ha⟩
  · cases hs

/-- A drawn region. -/
theorem aDraw_sim (G : P.follows .mixedOrders = true) (CS : CallSim P cf) (hs : statOK P ops = true) (hok : ∀ (i : Nat) o, ops[i]? = some o → opOK P o.op = true) {m : Mp} {h : Heap} {w : World} {env : List Value} {a : Act} {env' : List Value} {h' : Heap}
    (R : Rel P m h w) (Er : ERel m env a) (ha : aDraw P cf ops env h = some (env', h')) {id : Nat} {Q : Exit → Act → World → Prop}
    (K : ∀ m' w' a', Rel P m' h' w' → ERel m' env' a' → Fr m h w m' h' w' → Q .normal a' w') : (Code.region id ops true).wp P Q a w := by
  unfold aDraw at ha
  split at ha
  · rename_i recs e hh ht
    cases hrd : readsOK P (befs ops.toList []) recs recs 0 with
    | false => rw [hrd] at ha; cases ha
    | true =>
      rw [hrd] at ha
      injection ha with ha; injection ha with e1 e2; subst e1; subst e2
      obtain ⟨i1, i2, i3, i4⟩ := aTrace_spec ops.toList env h recs e hh ht
      have hn : recs.length = ops.size := by rw [i1, Array.length_toList]
      have hT : Tr0 P cf ops (trH recs hh) (trE recs e) (trV recs) := by
        constructor
        · intro i o ho
          obtain ⟨r, r1, r2, r3, r4, r5, r6, r7⟩ := i4 i o (by simpa using ho)
          exact ⟨fun hw => r5 (by rw [r3]; exact hw), fun hw => r6 (by rw [r3]; exact hw)⟩
        · intro i o ho
          obtain ⟨r, r1, r2, r3, r4, r5, r6, r7⟩ := i4 i o (by simpa using ho)
          exact r7
      have hend : trH recs hh ops.size = hh ∧ trE recs e ops.size = e := by
        simp [trH, trE, List.getElem?_eq_none (show recs.length ≤ ops.size by omega)]
      have hR : ReadsOK P ops (trH recs hh) (trE recs e) (trV recs) := by
        intro i q oi oq hoi hoq hei hwi heq
        obtain ⟨r, r1, r2, r3, r4, r5, r6, r7⟩ := i4 i oi (by simpa using hoi)
        obtain ⟨rq, q1, q2, q3, q4, q5, q6, q7⟩ := i4 q oq (by simpa using hoq)
        have hw : r.w = true := by rw [r3]; exact hwi
        have h1 := r5 hw
        unfold aStep at h1
        rw [isEff_callee hei] at h1
        simp only at h1
        cases hrr : isReader oi.op with
        | false => exact ⟨fun _ _ => ⟨_, indep hei hrr h1 _⟩, fun _ _ => ⟨_, indep hei hrr h1 _⟩⟩
        | true =>
          have hk := readsOK_at recs 0 hrd i r r1 hw (by rw [r2]; exact hrr) (by rw [r2]; exact hei)
          rw [Nat.zero_add] at hk
          have := readOK_at recs 0 hk q rq q1 (by rw [q2]; exact heq)
          rw [Nat.zero_add] at this
          have hev : trE recs e i = r.env := by simp [trE, r1]
          have hvv : trV recs i = r.v := by simp [trV, r1]
          have hqh : trH recs hh q = rq.h := by simp [trH, q1]
          rw [hev, hvv, hqh, ← q4, ← r2]
          exact ⟨fun hlt hb => sameAt_eq (this.1 hlt hb), fun hlt hb => sameAt_eq (this.2 hlt hb)⟩
      refine wp_region_any G ?_
      have hl0 : ∀ j, (Array.replicate ops.size false).getD j false = false := fun j => by
        simp only [Array.getD_eq_getD_getElem?, Array.getElem?_replicate]
        split <;> rfl
      have hfr : trH recs hh (frA (effAt P ops) (fun j => (Array.replicate ops.size false).getD j false) ops.size 0) = h := by
        obtain ⟨f1, f2, f3, f4⟩ := frA_spec (effAt P ops) (fun j => (Array.replicate ops.size false).getD j false) ops.size 0
        rcases heap_stays hT 0 _ f1 (by omega) with hx | ⟨q, q1, q2, q3, q4⟩
        · rw [hx, i2]
        · have := f3 q q1 q2 q3
          rw [hl0] at this; cases this
      have henv : envF ops (trE recs e 0) (trV recs) (fun j => (Array.replicate ops.size false).getD j false) ops.size = env := by
        rw [i3]
        apply List.ext_getElem?
        intro t
        rw [envF_agree (D' := fun _ => false) t ops.size (fun i _ _ => hl0 i)]
        have : ∀ k, envF ops env (trV recs) (fun _ => false) k = env := by
          intro k
          induction k with
          | zero => rfl
          | succ k ih => simp only [envF, cond_false]; exact ih
        rw [this]
      refine draw_any CS hT hs hR hok (m0 := m) (h0 := h) (w0 := { w with drawn := w.drawn + 1 }) ?_ ops.size _ m _ a (by simp) (fun j o _ hj => by rw [hl0] at hj; cases hj) (Nat.le_trans (List.length_filter_le _ _) (by simp)) ?_ ?_ ?_
      · intro m' w' a' R' E' F'
        rw [hend.1] at R' F'
        rw [hend.2] at E'
        exact K m' w' a' R' E' ((Fr.drew m h w).trans F')
      · rw [hfr]; exact R.drew
      · rw [henv]; exact Er
      · rw [hfr]; exact Fr.refl _ _ _
  · cases ha
end
end Go.AM
