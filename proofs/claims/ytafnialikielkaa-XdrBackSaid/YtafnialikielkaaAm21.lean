/- The abstract machine, part 21: drawn regions with readers that are not bound: laws of the walk, and what is left to show. -/
import Derived.Test.YtafnialikielkaaAm20
namespace Go.AM
open Go

/-- The readers and acting operations that stand in no fixed order. -/
def unb (P : Program) (ops : Array Oper) : List (Nat × Nat) :=
  let b := befs ops.toList []
  let l := ops.toList
  (List.range l.length).flatMap fun i => match l[i]? with
    | none => []
    | some oi => bif isReader oi.op && !(isEff P oi.op) then
        (List.range l.length).filterMap fun q => match l[q]? with
          | none => none
          | some oq => bif isEff P oq.op then (bif Nat.blt i q then (bif (b.getD q 0).testBit i then none else some (i, q)) else bif Nat.blt q i then (bif (b.getD i 0).testBit q then none else some (i, q)) else none) else none
      else []

section
variable {P : Program} {ops : Array Oper}

def okPair (P : Program) (recs : List Rec) (p : Nat × Nat) : Prop :=
  match recs[p.1]?, recs[p.2]? with
  | some r, some rq => r.w = false ∨ sameAt P r (bif Nat.blt p.1 p.2 then rq.h' else rq.h) = true
  | _, _ => True

theorem WDraw.mono {Q1 Q2 : List Rec → List Value → Heap → Prop} : ∀ (l : List Oper) (acc : List Rec) (env : List Value) (h : Heap), (∀ r e h, Q1 r e h → r.map (·.o) = acc.reverse.map (·.o) ++ l → Q2 r e h) → WDraw P ops Q1 l acc env h → WDraw P ops Q2 l acc env h
  | [], acc, env, h, hq, hw => hq _ _ _ hw (by simp)
  | o :: l, acc, env, h, hq, hw => by
    have step : ∀ (r : Rec) (e : List Value) (h' : Heap), r.o = o → WDraw P ops Q1 l (r :: acc) e h' → WDraw P ops Q2 l (r :: acc) e h' := fun r e h' hr hw => by
      refine WDraw.mono l (r :: acc) e h' (fun r' e' h'' a b => hq _ _ _ a ?_) hw
      simpa [hr] using b
    unfold WDraw at hw ⊢
    cases hg : aWanted ops o env with
    | true =>
      rw [hg, cond_true] at hw
      rw [cond_true]
      split at hw
      · exact hw.mono fun v h' hq => step _ _ _ rfl hq
      · split at hw
        · exact step _ _ _ rfl hw
        · exact hw.elim
    | false =>
      rw [hg, cond_false] at hw
      rw [cond_false]
      exact step _ _ _ rfl hw

theorem readOK_pairs (b : List Nat) (i : Nat) (r : Rec) : ∀ (l : List Rec) (q0 : Nat), (∀ q rq, l[q]? = some rq → isEff P rq.o.op = true → (i < q0 + q → (b.getD (q0 + q) 0).testBit i = true ∨ sameAt P r rq.h' = true) ∧ (q0 + q < i → (b.getD i 0).testBit (q0 + q) = true ∨ sameAt P r rq.h = true)) → readOK P b i r l q0 = true
  | [], _, _ => rfl
  | rq :: l, q0, h => by
    have h0 := h 0 rq rfl
    have ih := readOK_pairs b i r l (q0 + 1) (fun q rq' hq he => by
      have := h (q + 1) rq' (by simpa using hq) he
      rw [show q0 + 1 + q = q0 + (q + 1) by omega]
      exact this)
    unfold readOK
    rw [ih, Bool.and_true]
    cases he : isEff P rq.o.op with
    | false => rfl
    | true =>
      obtain ⟨a, c⟩ := h0 he
      rw [Nat.add_zero] at a c
      rw [cond_true]
      by_cases h1 : i < q0
      · rw [blt_true h1, cond_true]; rcases a h1 with x | x <;> rw [x] <;> simp
      · rw [blt_false (by omega), cond_false]
        by_cases h2 : q0 < i
        · rw [blt_true h2, cond_true]; rcases c h2 with x | x <;> rw [x] <;> simp
        · rw [blt_false (by omega)]; rfl

theorem readsOK_pairs (b : List Nat) (all : List Rec) : ∀ (l : List Rec) (i0 : Nat), (∀ i r, l[i]? = some r → r.w = true → isReader r.o.op = true → isEff P r.o.op = false → ∀ q rq, all[q]? = some rq → isEff P rq.o.op = true → (i0 + i < q → (b.getD q 0).testBit (i0 + i) = true ∨ sameAt P r rq.h' = true) ∧ (q < i0 + i → (b.getD (i0 + i) 0).testBit q = true ∨ sameAt P r rq.h = true)) → readsOK P b all l i0 = true
  | [], _, _ => rfl
  | r :: l, i0, h => by
    have ih := readsOK_pairs b all l (i0 + 1) (fun i r' hr hw hi he q rq hq hqe => by
      have := h (i + 1) r' (by simpa using hr) hw hi he q rq hq hqe
      rw [show i0 + 1 + i = i0 + (i + 1) by omega]
      exact this)
    unfold readsOK
    rw [ih, Bool.and_true]
    cases hc : (r.w && isReader r.o.op && !(isEff P r.o.op)) with
    | false => rfl
    | true =>
      simp only [Bool.and_eq_true, Bool.not_eq_true'] at hc
      rw [cond_true]
      refine readOK_pairs b i0 r all 0 (fun q rq hq hqe => ?_)
      have := h 0 r rfl hc.1.1 hc.1.2 hc.2 q rq hq hqe
      rw [Nat.add_zero] at this
      rw [Nat.zero_add]
      exact this

theorem mem_unb {i q : Nat} {oi oq : Oper} (hi : ops.toList[i]? = some oi) (hq : ops.toList[q]? = some oq) (hr : isReader oi.op = true) (he : isEff P oi.op = false) (hqe : isEff P oq.op = true) :
    (i < q → ((befs ops.toList []).getD q 0).testBit i = true ∨ (i, q) ∈ unb P ops) ∧ (q < i → ((befs ops.toList []).getD i 0).testBit q = true ∨ (i, q) ∈ unb P ops) := by
  have li : i < ops.toList.length := (List.getElem?_eq_some_iff.1 hi).1
  have lq : q < ops.toList.length := (List.getElem?_eq_some_iff.1 hq).1
  have key : ∀ x, (match ops.toList[q]? with
          | none => none
          | some oq => bif isEff P oq.op then (bif Nat.blt i q then (bif ((befs ops.toList []).getD q 0).testBit i then none else some (i, q)) else bif Nat.blt q i then (bif ((befs ops.toList []).getD i 0).testBit q then none else some (i, q)) else none) else none) = some x → x ∈ unb P ops := fun x hx => by
    unfold unb
    refine List.mem_flatMap.2 ⟨i, List.mem_range.2 li, ?_⟩
    simp only [hi, hr, he, Bool.not_false, Bool.and_self, cond_true]
    exact List.mem_filterMap.2 ⟨q, List.mem_range.2 lq, hx⟩
  constructor
  · intro h
    cases hb : ((befs ops.toList []).getD q 0).testBit i with
    | true => exact .inl rfl
    | false =>
      refine .inr (key _ ?_)
      simp only [hq, hqe, cond_true, blt_true h, hb, cond_false]
  · intro h
    cases hb : ((befs ops.toList []).getD i 0).testBit q with
    | true => exact .inl rfl
    | false =>
      refine .inr (key _ ?_)
      simp only [hq, hqe, cond_true, blt_true h, blt_false (show ¬ i < q by omega), hb, cond_false]

/-- A drawn region, walked in the text's order; of the readers that are bound to nothing it is to be shown that they read the same. -/
theorem Wp.drawU {id : Nat} {Q : AX → List Value → Heap → Prop} {env : List Value} {h : Heap} (U : List (Nat × Nat)) (hU : unb P ops = U)
    (hw : WDraw P ops (fun recs e h' => (∀ p ∈ U, okPair P recs p) ∧ Q .normal e h') ops.toList [] env h) : Wp P (.region id ops true) Q env h := by
  refine Wp.draw'' fun b hb => ?_
  subst hb
  refine WDraw.mono _ _ _ _ (fun recs e h' hq hr => ⟨?_, hq.2⟩) hw
  obtain ⟨hp, -⟩ := hq
  have hr : recs.map (·.o) = ops.toList := by simpa using hr
  refine readsOK_pairs _ recs recs 0 (fun i r hi hrw h1 h2 q rq hq h3 => ?_)
  have oi : ops.toList[i]? = some r.o := by rw [← hr, List.getElem?_map, hi]; rfl
  have oq : ops.toList[q]? = some rq.o := by rw [← hr, List.getElem?_map, hq]; rfl
  obtain ⟨a, b⟩ := mem_unb (P := P) oi oq h1 h2 h3
  rw [Nat.zero_add]
  constructor
  · intro h
    refine (a h).imp (fun x => x) (fun hm => ?_)
    have := hp _ (hU ▸ hm)
    simp only [okPair, hi, hq, blt_true h, _root_.cond_true, hrw] at this
    simpa using this
  · intro h
    refine (b h).imp (fun x => x) (fun hm => ?_)
    have := hp _ (hU ▸ hm)
    simp only [okPair, hi, hq, blt_false (show ¬ i < q by omega), _root_.cond_false, hrw] at this
    simpa using this
end

/-! ### the walk -/
section
variable {P : Program} {ops : Array Oper} {Q : List Rec → List Value → Heap → Prop} {env : List Value} {h : Heap} {l : List Oper} {acc : List Rec} {d : Option Tmp} {ty : TypeId} {ps : String} {af : Array Edge} {g : Option (Nat × Bool)}

/-- One operation that is wanted. -/
def WD1 (P : Program) (ops : Array Oper) (Q : List Rec → List Value → Heap → Prop) (o : Oper) (l : List Oper) (acc : List Rec) (env : List Value) (h : Heap) : Prop :=
  match aCallee o.op (aEval env) with
  | some (g, args) => Cl P g args h fun v h' => WDraw P ops Q l (⟨o, true, env, h, v, h'⟩ :: acc) (aPut env o.dst v) h'
  | none => DH P ops Q l acc o env h (aOp P h o.op (aEval env))

theorem WD_cons (o : Oper) : WDraw P ops Q (o :: l) acc env h = (bif aWanted ops o env then WD1 P ops Q o l acc env h else WDraw P ops Q l (⟨o, false, env, h, undef, h⟩ :: acc) (aPut env o.dst undef) h) := by
  conv => lhs; unfold WDraw
  cases aWanted ops o env with
  | false => rfl
  | true =>
    simp only [cond_true]
    unfold WD1
    cases aCallee o.op (aEval env) with
    | some x => rfl
    | none => cases aOp P h o.op (aEval env) with
      | none => rfl
      | some r => rfl
theorem WD_none {op : Op} : WDraw P ops Q (⟨d, op, ty, ps, af, none⟩ :: l) acc env h = WD1 P ops Q ⟨d, op, ty, ps, af, none⟩ l acc env h := by
  rw [WD_cons]; first | rfl | skip
def WDG (P : Program) (ops : Array Oper) (Q : List Rec → List Value → Heap → Prop) (o : Oper) (l : List Oper) (acc : List Rec) (env : List Value) (h : Heap) (want : Bool) : Value → Prop
  | .bool b => match b, want with
    | true, true => WD1 P ops Q o l acc env h
    | false, false => WD1 P ops Q o l acc env h
    | _, _ => WDraw P ops Q l (⟨o, false, env, h, undef, h⟩ :: acc) (aPut env o.dst undef) h
  | _ => WDraw P ops Q l (⟨o, false, env, h, undef, h⟩ :: acc) (aPut env o.dst undef) h
theorem WDG_tt {o : Oper} : WDG P ops Q o l acc env h true (.bool true) = WD1 P ops Q o l acc env h := (rfl)
theorem WDG_ff {o : Oper} : WDG P ops Q o l acc env h false (.bool false) = WD1 P ops Q o l acc env h := (rfl)
theorem WDG_tf {o : Oper} : WDG P ops Q o l acc env h true (.bool false) = WDraw P ops Q l (⟨o, false, env, h, undef, h⟩ :: acc) (aPut env o.dst undef) h := (rfl)
theorem WDG_ft {o : Oper} : WDG P ops Q o l acc env h false (.bool true) = WDraw P ops Q l (⟨o, false, env, h, undef, h⟩ :: acc) (aPut env o.dst undef) h := (rfl)
theorem WD_guard {op : Op} {j : Nat} {want : Bool} : WDraw P ops Q (⟨d, op, ty, ps, af, some (j, want)⟩ :: l) acc env h = WDG P ops Q ⟨d, op, ty, ps, af, some (j, want)⟩ l acc env h want (gval env (nthD ops.toList j)) := by
  have hw : aWanted ops ⟨d, op, ty, ps, af, some (j, want)⟩ env = (match gval env (nthD ops.toList j) with | .bool b => b == want | _ => false) := by
    unfold aWanted
    rw [nthD_eq]
    simp only [Array.getElem?_toList]
    cases hj : ops[j]? with
    | none => rfl
    | some oj =>
      cases hd : oj.dst with
      | none => simp only [hd]; rfl
      | some t =>
        simp only [hd, gval, sl, List.getD_eq_getElem?_getD]
        cases he : env[t]? with
        | none => rfl
        | some v => cases v <;> rfl
  rw [WD_cons, hw]
  unfold WDG
  cases gval env (nthD ops.toList j) <;> first | rfl | (rename_i b; cases b <;> cases want <;> rfl)

theorem WD1_call {f : FuncId} {as : Array Operand} {ts : Array TypeId} : WD1 P ops Q ⟨d, .call ⟨.value (.func f), as, ts⟩, ty, ps, af, g⟩ l acc env h =
    Cl P f (as.toList.map (aEval env)) h fun v h' => WDraw P ops Q l (⟨⟨d, .call ⟨.value (.func f), as, ts⟩, ty, ps, af, g⟩, true, env, h, v, h'⟩ :: acc) (aPut env d v) h' := by
  unfold WD1
  simp only [aCallee, aEval]
  simp
theorem WD1_op {op : Op} (hc : aCallee op (aEval env) = none) : WD1 P ops Q ⟨d, op, ty, ps, af, g⟩ l acc env h = DH P ops Q l acc ⟨d, op, ty, ps, af, g⟩ env h (aOp P h op (aEval env)) := by
  unfold WD1; rw [hc]
theorem WD1_move {x : Operand} : WD1 P ops Q ⟨d, .move x, ty, ps, af, g⟩ l acc env h = WDraw P ops Q l (⟨⟨d, .move x, ty, ps, af, g⟩, true, env, h, aEval env x, h⟩ :: acc) (aPut env d (aEval env x)) h := (WD1_op rfl)
theorem WD1_assign {x : Operand} : WD1 P ops Q ⟨d, .assign x, ty, ps, af, g⟩ l acc env h = WDraw P ops Q l (⟨⟨d, .assign x, ty, ps, af, g⟩, true, env, h, aEval env x, h⟩ :: acc) (aPut env d (aEval env x)) h := (WD1_op rfl)
theorem WD1_load {t : TypeId} {a : Operand} : WD1 P ops Q ⟨d, .load t a, ty, ps, af, g⟩ l acc env h = DH P ops Q l acc ⟨d, .load t a, ty, ps, af, g⟩ env h (withH h (aLoad P h t (aEval env a))) := (WD1_op rfl)
theorem WD1_convert {s t : TypeId} {a : Operand} : WD1 P ops Q ⟨d, .convert s t a, ty, ps, af, g⟩ l acc env h = DH P ops Q l acc ⟨d, .convert s t a, ty, ps, af, g⟩ env h (aConv P h s t (aEval env a)) := (WD1_op rfl)
theorem WD1_fieldAddr {t : TypeId} {x : Operand} {f : Nat} : WD1 P ops Q ⟨d, .fieldAddr t x f, ty, ps, af, g⟩ l acc env h = DH P ops Q l acc ⟨d, .fieldAddr t x f, ty, ps, af, g⟩ env h (withH h (aFieldAddr P t (aEval env x) f)) := (WD1_op rfl)
theorem WD1_field {t : TypeId} {x : Operand} {f : Nat} : WD1 P ops Q ⟨d, .field t x f, ty, ps, af, g⟩ l acc env h = DH P ops Q l acc ⟨d, .field t x f, ty, ps, af, g⟩ env h (withH h (aField P t (aEval env x) f)) := (WD1_op rfl)
theorem WD1_indexAddr {t : TypeId} {x i : Operand} : WD1 P ops Q ⟨d, .indexAddr t x i, ty, ps, af, g⟩ l acc env h = DH P ops Q l acc ⟨d, .indexAddr t x i, ty, ps, af, g⟩ env h (withH h (aIndexAddr P t (aEval env x) (aEval env i))) := (WD1_op rfl)
theorem WD1_extract {x : Operand} {i : Nat} : WD1 P ops Q ⟨d, .extract x i, ty, ps, af, g⟩ l acc env h = DH P ops Q l acc ⟨d, .extract x i, ty, ps, af, g⟩ env h (withH h (aExtract (aEval env x) i)) := (WD1_op rfl)
theorem WD1_binOp {op : BinOp} {t y : TypeId} {a b : Operand} : WD1 P ops Q ⟨d, .binOp op t a b y, ty, ps, af, g⟩ l acc env h = DH P ops Q l acc ⟨d, .binOp op t a b y, ty, ps, af, g⟩ env h (withH h (aBin P op t a b (aEval env a) (aEval env b))) := (WD1_op rfl)
theorem WD1_unOp {op : UnOp} {t : TypeId} {a : Operand} : WD1 P ops Q ⟨d, .unOp op t a, ty, ps, af, g⟩ l acc env h = DH P ops Q l acc ⟨d, .unOp op t a, ty, ps, af, g⟩ env h (withH h (aUn op (aEval env a))) := (WD1_op rfl)
theorem WD1_builtin {b : Builtin} {as : Array Operand} {ts : Array TypeId} : WD1 P ops Q ⟨d, .call ⟨.builtin b, as, ts⟩, ty, ps, af, g⟩ l acc env h = DH P ops Q l acc ⟨d, .call ⟨.builtin b, as, ts⟩, ty, ps, af, g⟩ env h (aBuiltin P h b ts.toList (as.toList.map (aEval env))) := (WD1_op rfl)
theorem WD1_slice2 {t : TypeId} {x lo hi : Operand} : WD1 P ops Q ⟨d, .slice t x (some lo) (some hi) none, ty, ps, af, g⟩ l acc env h = DH P ops Q l acc ⟨d, .slice t x (some lo) (some hi) none, ty, ps, af, g⟩ env h (withH h (aSlice P h t (aEval env x) (some (aEval env lo)) (some (aEval env hi)) none)) := (WD1_op rfl)
theorem WD1_slice1 {t : TypeId} {x hi : Operand} : WD1 P ops Q ⟨d, .slice t x none (some hi) none, ty, ps, af, g⟩ l acc env h = DH P ops Q l acc ⟨d, .slice t x none (some hi) none, ty, ps, af, g⟩ env h (withH h (aSlice P h t (aEval env x) none (some (aEval env hi)) none)) := (WD1_op rfl)
theorem WD1_nilCheck {x : Operand} : WD1 P ops Q ⟨d, .nilCheck x, ty, ps, af, g⟩ l acc env h = DNil P ops Q l acc ⟨d, .nilCheck x, ty, ps, af, g⟩ env h (aEval env x) := by
  rw [WD1_op rfl]
  simp only [aOp]
  cases aEval env x <;> first | rfl | (rename_i t; cases t <;> rfl)
def DPick (P : Program) (ops : Array Oper) (Q : List Rec → List Value → Heap → Prop) (l : List Oper) (acc : List Rec) (o : Oper) (env : List Value) (h : Heap) (a b : Value) : Value → Prop
  | .bool t => WDraw P ops Q l (⟨o, true, env, h, bif t then a else b, h⟩ :: acc) (aPut env o.dst (bif t then a else b)) h
  | _ => False
theorem DPick_bool {o : Oper} {a b : Value} {t : Bool} : DPick P ops Q l acc o env h a b (.bool t) = WDraw P ops Q l (⟨o, true, env, h, bif t then a else b, h⟩ :: acc) (aPut env o.dst (bif t then a else b)) h := (rfl)
theorem WD1_pick {c a b : Operand} : WD1 P ops Q ⟨d, .pick c a b, ty, ps, af, g⟩ l acc env h = DPick P ops Q l acc ⟨d, .pick c a b, ty, ps, af, g⟩ env h (aEval env a) (aEval env b) (aEval env c) := by
  rw [WD1_op rfl]
  simp only [aOp]
  cases aEval env c <;> rfl
end

/-- A call that leaves the heap as it is, of a known result. -/
theorem Cl.pure {P : Program} {f : FuncId} {args : List Value} {h : Heap} {X : Value} {Q : Value → Heap → Prop} (c : Cl P f args h fun v h' => v = X ∧ h' = h) (q : Q X h) : Cl P f args h Q :=
  c.mono fun v h' e => by obtain ⟨e1, e2⟩ := e; rw [e1, e2]; exact q

/-- What two values of one form come to, where they are the same. -/
theorem veqB_int (k : IntKind) (n : Int) : veqB 6 (.int k n) (.int k n) = true := by simp [veqB]
theorem veqB_str (s : ByteArray) : veqB 6 (.string s) (.string s) = true := by simp [veqB]
theorem veqB_bool (s : Bool) : veqB 6 (.bool s) (.bool s) = true := by simp [veqB]
theorem veqB_sl (a : Option Addr) (n c : Nat) : veqB 6 (.slice a n c) (.slice a n c) = true := by simp [veqB]
theorem sameAt_load {P : Program} {t : TypeId} {a : Operand} {d : Option Tmp} {ty : TypeId} {ps : String} {af : Array Edge} {g : Option (Nat × Bool)} {w : Bool} {env : List Value} {h h1 h2 : Heap} {v : Value} (hl : aLoad P h t (aEval env a) = some v) (hv : veqB 6 v v = true) :
    sameAt P ⟨⟨d, .load t a, ty, ps, af, g⟩, w, env, h1, v, h2⟩ h = true := by
  simp only [sameAt, aOp, hl, withH, hv]
theorem sameAt_conv {P : Program} {s t : TypeId} {a : Operand} {d : Option Tmp} {ty : TypeId} {ps : String} {af : Array Edge} {g : Option (Nat × Bool)} {w : Bool} {env : List Value} {h h1 h2 : Heap} {v : Value} (hl : aConv P h s t (aEval env a) = some (v, h)) (hv : veqB 6 v v = true) :
    sameAt P ⟨⟨d, .convert s t a, ty, ps, af, g⟩, w, env, h1, v, h2⟩ h = true := by
  simp only [sameAt, aOp, hl, hv]
end Go.AM
