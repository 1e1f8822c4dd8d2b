/- The abstract machine, part 14: laws by which a walk over the abstract machine goes on. -/
import Derived.Test.YtafnialikielkaaAm13
namespace Go.AM
open Go

/-- What stands in a slot. -/
def sl (env : List Value) (t : Nat) : Value := env.getD t undef

theorem aEval_tmp (env : List Value) (t : Nat) : aEval env (.tmp t) = sl env t := (rfl)
theorem aEval_const (env : List Value) (v : Value) : aEval env (.const v) = v := (rfl)
theorem aEval_global (env : List Value) (g : Nat) : aEval env (.global g) = .pointer (some ⟨g, 0, none⟩) := (rfl)
theorem aEval_func (env : List Value) (f : Nat) : aEval env (.func f) = .func (.func f) #[] #[] := (rfl)
theorem aPut_some (env : List Value) (d : Nat) (v : Value) : aPut env (some d) v = env.set d v := (rfl)
theorem aPut_none (env : List Value) (v : Value) : aPut env none v = env := (rfl)
theorem sl_eq {env : List Value} {t : Nat} {v : Value} (h : t < env.length) : sl (env.set t v) t = v := by simp [sl, h]
theorem sl_ne {env : List Value} {t s : Nat} {v : Value} (h : t ≠ s) : sl (env.set t v) s = sl env s := by
  simp only [sl, List.getD_eq_getElem?_getD]; rw [List.getElem?_set_ne h]

section
variable {P : Program} {ops : Array Oper} {Q : List Value → Heap → Prop} {env : List Value} {h : Heap} {l : List Oper} {d : Option Tmp} {ty : TypeId} {ps : String} {af : Array Edge}

def WV (P : Program) (ops : Array Oper) (Q : List Value → Heap → Prop) (l : List Oper) (env : List Value) (h : Heap) (d : Option Tmp) : Option Value → Prop
  | some v => WOps P ops Q l (aPut env d v) h
  | none => False
def WH (P : Program) (ops : Array Oper) (Q : List Value → Heap → Prop) (l : List Oper) (env : List Value) (d : Option Tmp) : Option (Value × Heap) → Prop
  | some (v, h') => WOps P ops Q l (aPut env d v) h'
  | none => False

theorem WV_some {v : Value} : WV P ops Q l env h d (some v) = WOps P ops Q l (aPut env d v) h := (rfl)
theorem WH_some {v : Value} {h' : Heap} : WH P ops Q l env d (some (v, h')) = WOps P ops Q l (aPut env d v) h' := (rfl)

theorem WH_with {x : Option Value} : WH P ops Q l env d (withH h x) = WV P ops Q l env h d x := by cases x <;> rfl

theorem WOps_nil : WOps P ops Q [] env h = Q env h := (rfl)

theorem WOps_plain {op : Op} (hc : aCallee op (aEval env) = none) : WOps P ops Q (⟨d, op, ty, ps, af, none⟩ :: l) env h = WH P ops Q l env d (aOp P h op (aEval env)) := by
  show (bif aWanted ops ⟨d, op, ty, ps, af, none⟩ env then _ else _) = _
  have : aWanted ops ⟨d, op, ty, ps, af, none⟩ env = true := rfl
  rw [this, cond_true, hc]
  cases aOp P h op (aEval env) with
  | none => rfl
  | some x => rfl

theorem WOps_move {x : Operand} : WOps P ops Q (⟨d, .move x, ty, ps, af, none⟩ :: l) env h = WOps P ops Q l (aPut env d (aEval env x)) h := (rfl)
theorem WOps_assign {x : Operand} : WOps P ops Q (⟨d, .assign x, ty, ps, af, none⟩ :: l) env h = WOps P ops Q l (aPut env d (aEval env x)) h := (rfl)
theorem WOps_pick {c a b : Operand} {t : Bool} (hc : aEval env c = .bool t) : WOps P ops Q (⟨d, .pick c a b, ty, ps, af, none⟩ :: l) env h = WOps P ops Q l (aPut env d (if t = true then aEval env a else aEval env b)) h := by
  rw [WOps_plain rfl]; simp only [aOp, hc]; cases t <;> rfl
theorem WOps_alloc {e : TypeId} : WOps P ops Q (⟨d, .alloc e, ty, ps, af, none⟩ :: l) env h = WH P ops Q l env d (aAlloc P h e) := (WOps_plain rfl)
theorem WOps_box {e : TypeId} {x : Operand} : WOps P ops Q (⟨d, .box e x, ty, ps, af, none⟩ :: l) env h = WH P ops Q l env d (aBox h e (aEval env x)) := (WOps_plain rfl)
theorem WOps_build {t : TypeId} {p : Array (Nat × Operand)} : WOps P ops Q (⟨d, .build t p, ty, ps, af, none⟩ :: l) env h = WV P ops Q l env h d (aBuild P t (p.toList.map fun q => (q.1, aEval env q.2))) := by
  rw [WOps_plain rfl]; exact WH_with
theorem WOps_buildSlice {t : TypeId} {n : Nat} {p : Array (Nat × Operand)} : WOps P ops Q (⟨d, .buildSlice t n p, ty, ps, af, none⟩ :: l) env h = WH P ops Q l env d (aBuildSlice P h t n (p.toList.map fun q => (q.1, aEval env q.2))) := (WOps_plain rfl)
theorem WOps_load {t : TypeId} {x : Operand} : WOps P ops Q (⟨d, .load t x, ty, ps, af, none⟩ :: l) env h = WV P ops Q l env h d (aLoad P h t (aEval env x)) := by rw [WOps_plain rfl]; exact WH_with
theorem WOps_store {t : TypeId} {a x : Operand} {h' : Heap} (hs : aStore P h t (aEval env a) (aEval env x) = some h') : WOps P ops Q (⟨d, .store t a x, ty, ps, af, none⟩ :: l) env h = WOps P ops Q l (aPut env d undef) h' := by
  rw [WOps_plain rfl]; simp only [aOp, hs]; rfl
theorem WOps_nilCheck {x : Operand} {a : Addr} (hx : aEval env x = .pointer (some a)) : WOps P ops Q (⟨d, .nilCheck x, ty, ps, af, none⟩ :: l) env h = WOps P ops Q l (aPut env d (.pointer (some a))) h := by
  rw [WOps_plain rfl]; simp only [aOp, hx]; rfl
theorem WOps_binOp {op : BinOp} {t y : TypeId} {a b : Operand} : WOps P ops Q (⟨d, .binOp op t a b y, ty, ps, af, none⟩ :: l) env h = WV P ops Q l env h d (aBin P op t a b (aEval env a) (aEval env b)) := by rw [WOps_plain rfl]; exact WH_with
theorem WOps_unOp {op : UnOp} {t : TypeId} {a : Operand} : WOps P ops Q (⟨d, .unOp op t a, ty, ps, af, none⟩ :: l) env h = WV P ops Q l env h d (aUn op (aEval env a)) := by rw [WOps_plain rfl]; exact WH_with
theorem WOps_convert {s t : TypeId} {a : Operand} : WOps P ops Q (⟨d, .convert s t a, ty, ps, af, none⟩ :: l) env h = WH P ops Q l env d (aConv P h s t (aEval env a)) := (WOps_plain rfl)
theorem WOps_makeSlice {t : TypeId} {a b : Operand} : WOps P ops Q (⟨d, .makeSlice t a b, ty, ps, af, none⟩ :: l) env h = WH P ops Q l env d (aMake P h t (aEval env a) (aEval env b)) := (WOps_plain rfl)
theorem WOps_slice {t : TypeId} {x : Operand} {lo hi mx : Option Operand} (hm : (mx.isSome && !hi.isSome) = false) : WOps P ops Q (⟨d, .slice t x lo hi mx, ty, ps, af, none⟩ :: l) env h = WV P ops Q l env h d (aSlice P h t (aEval env x) (lo.map (aEval env)) (hi.map (aEval env)) (mx.map (aEval env))) := by
  rw [WOps_plain rfl]; simp only [aOp, hm, cond_false]; exact WH_with
theorem WOps_fieldAddr {t : TypeId} {x : Operand} {f : Nat} : WOps P ops Q (⟨d, .fieldAddr t x f, ty, ps, af, none⟩ :: l) env h = WV P ops Q l env h d (aFieldAddr P t (aEval env x) f) := by rw [WOps_plain rfl]; exact WH_with
theorem WOps_field {t : TypeId} {x : Operand} {f : Nat} : WOps P ops Q (⟨d, .field t x f, ty, ps, af, none⟩ :: l) env h = WV P ops Q l env h d (aField P t (aEval env x) f) := by rw [WOps_plain rfl]; exact WH_with
theorem WOps_indexAddr {t : TypeId} {x i : Operand} : WOps P ops Q (⟨d, .indexAddr t x i, ty, ps, af, none⟩ :: l) env h = WV P ops Q l env h d (aIndexAddr P t (aEval env x) (aEval env i)) := by rw [WOps_plain rfl]; exact WH_with
theorem WOps_index {t : TypeId} {x i : Operand} : WOps P ops Q (⟨d, .index t x i, ty, ps, af, none⟩ :: l) env h = WV P ops Q l env h d (aIndex P t (aEval env x) (aEval env i)) := by rw [WOps_plain rfl]; exact WH_with
theorem WOps_extract {x : Operand} {i : Nat} : WOps P ops Q (⟨d, .extract x i, ty, ps, af, none⟩ :: l) env h = WV P ops Q l env h d (aExtract (aEval env x) i) := by rw [WOps_plain rfl]; exact WH_with
theorem WOps_builtin {b : Builtin} {as : Array Operand} {ts : Array TypeId} : WOps P ops Q (⟨d, .call ⟨.builtin b, as, ts⟩, ty, ps, af, none⟩ :: l) env h = WH P ops Q l env d (aBuiltin P h b ts.toList (as.toList.map (aEval env))) := (WOps_plain rfl)
theorem WOps_call {g : FuncId} {as : Array Operand} {ts : Array TypeId} : WOps P ops Q (⟨d, .call ⟨.value (.func g), as, ts⟩, ty, ps, af, none⟩ :: l) env h =
    Cl P g (as.toList.map (aEval env)) h fun v h' => WOps P ops Q l (aPut env d v) h' := by
  show (bif true then _ else _) = _
  simp only [cond_true, aCallee, aEval]
  simp
theorem WOps_guard {op : Op} {j : Nat} {want : Bool} {oj : Oper} {t : Nat} {b : Bool} (hj : ops[j]? = some oj) (hd : oj.dst = some t) (hb : sl env t = .bool b) :
    WOps P ops Q (⟨d, op, ty, ps, af, some (j, want)⟩ :: l) env h = (if b = want then WOps P ops Q (⟨d, op, ty, ps, af, none⟩ :: l) env h else WOps P ops Q l (aPut env d undef) h) := by
  have hw : aWanted ops ⟨d, op, ty, ps, af, some (j, want)⟩ env = (b == want) := by
    unfold aWanted
    simp only [hj, hd]
    have : env[t]? = some (.bool b) := by
      simp only [sl, List.getD_eq_getElem?_getD] at hb
      cases he : env[t]? with
      | none => rw [he] at hb; simp [undef] at hb
      | some v => rw [he] at hb; simp only [Option.getD_some] at hb; rw [hb]
    rw [this]
  show (bif aWanted ops ⟨d, op, ty, ps, af, some (j, want)⟩ env then _ else _) = _
  rw [hw]
  by_cases e : b = want
  · rw [if_pos e]; simp only [e, beq_self_eq_true, cond_true]; rfl
  · rw [if_neg e]
    have : (b == want) = false := by simpa using e
    rw [this]; rfl
end

/-- A call by its text: the slots begin with the arguments. -/
theorem Cl.enter {P : Program} {g : FuncId} {fn : Func} {body : Code} {args : List Value} {h : Heap} {Q : Value → Heap → Prop} (hf : P.funcs[g]? = some fn) (hb : fn.body = some body) (N : Nat) (hN : fn.ntmps = N) (hle : args.length ≤ N)
    (hw : ∀ env : List Value, env.length = N → (∀ i, i < args.length → sl env i = args.getD i undef) → Wp P body (fun ax e h' => match ax with
      | .exit _ => False
      | _ => match aResults P fn h' e with
        | some v => Q v h'
        | none => False) env h) : Cl P g args h Q := by
  refine Cl.of hf hb (hw _ (by simp; omega) (fun i hi => ?_))
  simp only [sl, List.getD_eq_getElem?_getD]
  rw [List.getElem?_append_left hi]

section
variable {P : Program} {k : IntKind} {a b : Int} {t : TypeId} {xo yo : Operand}
theorem bin_add : aBin P .add t xo yo (.int k a) (.int k b) = some (.int k (k.wrap (a + b))) := by simp [aBin, aIntBin]
theorem bin_sub : aBin P .sub t xo yo (.int k a) (.int k b) = some (.int k (k.wrap (a - b))) := by simp [aBin, aIntBin]
theorem bin_mul : aBin P .mul t xo yo (.int k a) (.int k b) = some (.int k (k.wrap (a * b))) := by simp [aBin, aIntBin]
theorem bin_quo (h : b ≠ 0) : aBin P .quo t xo yo (.int k a) (.int k b) = some (.int k (k.wrap (a.tdiv b))) := by simp [aBin, aIntBin, h]
theorem bin_rem (h : b ≠ 0) : aBin P .rem t xo yo (.int k a) (.int k b) = some (.int k (a.tmod b)) := by simp [aBin, aIntBin, h]
theorem bin_and : aBin P .and t xo yo (.int k a) (.int k b) = some (.int k (k.wrap (BitVec.ofInt k.bits a &&& BitVec.ofInt k.bits b).toNat)) := by simp [aBin, aIntBin]
theorem bin_or : aBin P .or t xo yo (.int k a) (.int k b) = some (.int k (k.wrap (BitVec.ofInt k.bits a ||| BitVec.ofInt k.bits b).toNat)) := by simp [aBin, aIntBin]
theorem bin_eql : aBin P .eql t xo yo (.int k a) (.int k b) = some (.bool (a == b)) := by simp [aBin, aIntBin]
theorem bin_neq : aBin P .neq t xo yo (.int k a) (.int k b) = some (.bool (a != b)) := by simp [aBin, aIntBin]
theorem bin_lss : aBin P .lss t xo yo (.int k a) (.int k b) = some (.bool (decide (a < b))) := by simp [aBin, aIntBin]
theorem bin_leq : aBin P .leq t xo yo (.int k a) (.int k b) = some (.bool (decide (a ≤ b))) := by simp [aBin, aIntBin]
theorem bin_gtr : aBin P .gtr t xo yo (.int k a) (.int k b) = some (.bool (decide (a > b))) := by simp [aBin, aIntBin]
theorem bin_geq : aBin P .geq t xo yo (.int k a) (.int k b) = some (.bool (decide (a ≥ b))) := by simp [aBin, aIntBin]
theorem bin_shl {yk : IntKind} (h : ¬ b < 0) : aBin P .shl t xo yo (.int k a) (.int yk b) = some (.int k (k.wrap (a * 2 ^ (min b.toNat k.bits)))) := by simp [aBin, h]
theorem bin_shr {yk : IntKind} (h : ¬ b < 0) : aBin P .shr t xo yo (.int k a) (.int yk b) = some (.int k (a.fdiv (2 ^ (min b.toNat k.bits)))) := by simp [aBin, h]
theorem un_not {c : Bool} : aUn .not (.bool c) = some (.bool (!c)) := (rfl)
theorem un_neg : aUn .neg (.int k a) = some (.int k (k.wrap (0 - a))) := (rfl)

theorem wrap_i64 {n : Int} (h1 : -9223372036854775808 ≤ n) (h2 : n ≤ 9223372036854775807) : IntKind.i64.wrap n = n := by
  simp only [IntKind.wrap, IntKind.bits, IntKind.signed]
  simp
  omega
theorem wrap_u64 {n : Int} (h1 : 0 ≤ n) (h2 : n < 18446744073709551616) : IntKind.u64.wrap n = n := by
  simp only [IntKind.wrap, IntKind.bits, IntKind.signed]
  simp
  omega
theorem wrap_u32 {n : Int} (h1 : 0 ≤ n) (h2 : n < 4294967296) : IntKind.u32.wrap n = n := by
  simp only [IntKind.wrap, IntKind.bits, IntKind.signed]
  simp
  omega
theorem wrap_u8 {n : Int} (h1 : 0 ≤ n) (h2 : n < 256) : IntKind.u8.wrap n = n := by
  simp only [IntKind.wrap, IntKind.bits, IntKind.signed]
  simp
  omega
end

section
variable {h : Heap} {k j : Nat} {e e0 : Ent}
theorem Heap.get_set_eq (hg : h.get k = some e0) : (h.set k e).get k = some e := by
  rw [Heap.get_set, if_pos ⟨rfl, Heap.get_lt hg⟩]
theorem Heap.get_set_ne (hne : k ≠ j) : (h.set k e).get j = h.get j := by
  rw [Heap.get_set, if_neg (fun x => hne x.1.symm)]
theorem Heap.get_push_new : (h.push e).get h.next = some e := by rw [Heap.get_push, if_pos rfl]
theorem Heap.get_push_old (hg : h.get k = some e0) : (h.push e).get k = some e0 := by
  rw [Heap.get_push, if_neg (Nat.ne_of_lt (Heap.get_lt hg)), hg]
end

section
variable {P : Program} {fn : Func} {h : Heap} {e : List Value}
theorem aRes_none (hr : fn.results = #[]) : aResults P fn h e = some (.tuple #[]) := by simp [aResults, hr, aRes]
theorem aRes_one {t : Nat} (hr : fn.results = #[.tmp t]) : aResults P fn h e = some (sl e t) := by simp [aResults, hr, aRes, sl]
theorem aRes_two {a b : Nat} (hr : fn.results = #[.tmp a, .tmp b]) : aResults P fn h e = some (.tuple #[sl e a, sl e b]) := by simp [aResults, hr, aRes, sl]
theorem aRes_three {a b c : Nat} (hr : fn.results = #[.tmp a, .tmp b, .tmp c]) : aResults P fn h e = some (.tuple #[sl e a, sl e b, sl e c]) := by simp [aResults, hr, aRes, sl]

theorem Wp.cond' {Q : AX → List Value → Heap → Prop} {env : List Value} {c : Operand} {a b : Code} (hc : ∃ t, aEval env c = .bool t ∧ (t = true → Wp P a Q env h) ∧ (t = false → Wp P b Q env h)) : Wp P (.cond c a b) Q env h := by
  obtain ⟨t, h1, h2, h3⟩ := hc
  exact Wp.cond h1 h2 h3
end

section
variable {Q : AX → List Value → Heap → Prop} {id j : Nat} {N : List Value → Heap → Prop} {e : List Value} {h : Heap}
theorem inBlock_exit : AX.inBlock id Q (.exit id) e h = Q .normal e h := by simp only [AX.inBlock, if_true]
theorem inBlock_other (hn : j ≠ id) : AX.inBlock id Q (.exit j) e h = Q (.exit j) e h := by simp only [AX.inBlock]; rw [if_neg hn]
theorem inBlock_normal : AX.inBlock id Q .normal e h = Q .normal e h := (rfl)
theorem inBlock_ret : AX.inBlock id Q .ret e h = Q .ret e h := (rfl)
theorem then_normal : AX.andThen N Q .normal e h = N e h := (rfl)
theorem then_exit : AX.andThen N Q (.exit id) e h = Q (.exit id) e h := (rfl)
theorem then_ret : AX.andThen N Q .ret e h = Q .ret e h := (rfl)
end

/-- What guards an operation. -/
def nthD : List Oper → Nat → Option Tmp
  | [], _ => none
  | o :: _, 0 => o.dst
  | _ :: l, n + 1 => nthD l n
def gval (env : List Value) : Option Tmp → Value
  | some t => sl env t
  | none => undef
theorem gval_some {env : List Value} {t : Nat} : gval env (some t) = sl env t := (rfl)
theorem nthD_zero {o : Oper} {l : List Oper} : nthD (o :: l) 0 = o.dst := (rfl)
theorem nthD_succ {o : Oper} {l : List Oper} {n : Nat} : nthD (o :: l) (n + 1) = nthD l n := (rfl)
theorem nthD_eq : ∀ (l : List Oper) (n : Nat), nthD l n = (match l[n]? with | some o => o.dst | none => none)
  | [], n => by simp [nthD]
  | o :: l, 0 => rfl
  | o :: l, n + 1 => by rw [nthD_succ, nthD_eq l n]; simp

section
variable {P : Program} {ops : Array Oper} {Q : List Value → Heap → Prop} {env : List Value} {h : Heap} {l : List Oper} {d : Option Tmp} {ty : TypeId} {ps : String} {af : Array Edge}

def WPick (P : Program) (ops : Array Oper) (Q : List Value → Heap → Prop) (l : List Oper) (env : List Value) (h : Heap) (d : Option Tmp) (a b : Value) : Value → Prop
  | .bool t => WOps P ops Q l (aPut env d (if t = true then a else b)) h
  | _ => False
def WNil (P : Program) (ops : Array Oper) (Q : List Value → Heap → Prop) (l : List Oper) (env : List Value) (h : Heap) (d : Option Tmp) : Value → Prop
  | .pointer (some a) => WOps P ops Q l (aPut env d (.pointer (some a))) h
  | _ => False
def WSt (P : Program) (ops : Array Oper) (Q : List Value → Heap → Prop) (l : List Oper) (env : List Value) (d : Option Tmp) : Option Heap → Prop
  | some h' => WOps P ops Q l (aPut env d undef) h'
  | none => False
def WGd (P : Program) (ops : Array Oper) (Q : List Value → Heap → Prop) (o : Oper) (l : List Oper) (env : List Value) (h : Heap) (d : Option Tmp) (want : Bool) : Value → Prop
  | .bool b => if b = want then WOps P ops Q (o :: l) env h else WOps P ops Q l (aPut env d undef) h
  | _ => WOps P ops Q l (aPut env d undef) h

theorem WPick_bool {a b : Value} {t : Bool} : WPick P ops Q l env h d a b (.bool t) = WOps P ops Q l (aPut env d (if t = true then a else b)) h := (rfl)
theorem WNil_ptr {a : Addr} : WNil P ops Q l env h d (.pointer (some a)) = WOps P ops Q l (aPut env d (.pointer (some a))) h := (rfl)
theorem WSt_some {h' : Heap} : WSt P ops Q l env d (some h') = WOps P ops Q l (aPut env d undef) h' := (rfl)
theorem WGd_bool {o : Oper} {want b : Bool} : WGd P ops Q o l env h d want (.bool b) = if b = want then WOps P ops Q (o :: l) env h else WOps P ops Q l (aPut env d undef) h := (rfl)

theorem WGd_tt {o : Oper} : WGd P ops Q o l env h d true (.bool true) = WOps P ops Q (o :: l) env h := (rfl)
theorem WGd_ff {o : Oper} : WGd P ops Q o l env h d false (.bool false) = WOps P ops Q (o :: l) env h := (rfl)
theorem WGd_tf {o : Oper} : WGd P ops Q o l env h d true (.bool false) = WOps P ops Q l (aPut env d undef) h := (rfl)
theorem WGd_ft {o : Oper} : WGd P ops Q o l env h d false (.bool true) = WOps P ops Q l (aPut env d undef) h := (rfl)
theorem WOps_pick' {c a b : Operand} : WOps P ops Q (⟨d, .pick c a b, ty, ps, af, none⟩ :: l) env h = WPick P ops Q l env h d (aEval env a) (aEval env b) (aEval env c) := by
  rw [WOps_plain rfl]
  simp only [aOp]
  cases aEval env c <;> first | rfl | (rename_i t; cases t <;> rfl)
theorem WOps_nilCheck' {x : Operand} : WOps P ops Q (⟨d, .nilCheck x, ty, ps, af, none⟩ :: l) env h = WNil P ops Q l env h d (aEval env x) := by
  rw [WOps_plain rfl]
  simp only [aOp]
  cases aEval env x <;> first | rfl | (rename_i t; cases t <;> rfl)
theorem WOps_store' {t : TypeId} {a x : Operand} : WOps P ops Q (⟨d, .store t a x, ty, ps, af, none⟩ :: l) env h = WSt P ops Q l env d (aStore P h t (aEval env a) (aEval env x)) := by
  rw [WOps_plain rfl]
  simp only [aOp]
  cases aStore P h t (aEval env a) (aEval env x) <;> rfl
theorem WOps_guard' {op : Op} {j : Nat} {want : Bool} : WOps P ops Q (⟨d, op, ty, ps, af, some (j, want)⟩ :: l) env h = WGd P ops Q ⟨d, op, ty, ps, af, none⟩ l env h d want (gval env (nthD ops.toList j)) := by
  have hw : aWanted ops ⟨d, op, ty, ps, af, some (j, want)⟩ env = (match gval env (nthD ops.toList j) with | .bool b => b == want | _ => false) := by
    unfold aWanted
    rw [nthD_eq]
    simp only [Array.getElem?_toList]
    cases hj : ops[j]? with
    | none => rfl
    | some oj =>
      cases hd : oj.dst with
      | none => simp only [hd]; rfl
      | some t =>
        simp only [hd, gval, sl, List.getD_eq_getElem?_getD]
        cases he : env[t]? with
        | none => rfl
        | some v => cases v <;> rfl
  show (bif aWanted ops ⟨d, op, ty, ps, af, some (j, want)⟩ env then _ else _) = _
  rw [hw]
  unfold WGd
  cases gval env (nthD ops.toList j) <;> first | rfl | (rename_i b; cases b <;> cases want <;> rfl)
end
end Go.AM
