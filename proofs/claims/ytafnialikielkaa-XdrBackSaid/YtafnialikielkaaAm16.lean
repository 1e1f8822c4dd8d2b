/- The abstract machine, part 16: rows of structs; walking through drawn regions. -/
import Derived.Test.YtafnialikielkaaAm15
namespace Go.AM
open Go

/-- A slice of elements of sz cells each, as it reads. -/
def RowS (h : Heap) (sz : Nat) (v : Value) (rows : List (List Value)) : Prop :=
  (v = .slice none 0 0 ∧ rows = []) ∨ (rows = [] ∧ ∃ k off c, v = .slice (some ⟨k, off, none⟩) 0 c) ∨
  ∃ k off cap cs el ro, v = .slice (some ⟨k, off, none⟩) rows.length cap ∧ h.get k = some (.cells cs el ro) ∧ off + sz * rows.length ≤ cs.length ∧ ∀ i, (hi : i < rows.length) → (cs.drop (off + sz * i)).take sz = rows[i]

theorem RowS.same {h h' : Heap} {S : Nat → Prop} {sz : Nat} {v : Value} {rows : List (List Value)} (r : RowS h sz v rows) (hs : Same h h' S) (hv : ∀ a n c, v = .slice (some a) n c → n ≠ 0 → ¬ S a.block) : RowS h' sz v rows := by
  rcases r with r | r | ⟨k, off, cap, cs, el, ro, rfl, hg, h1, h2⟩
  · exact .inl r
  · exact .inr (.inl r)
  · by_cases hz : rows.length = 0
    · have := List.eq_nil_of_length_eq_zero hz
      subst this
      exact .inr (.inl ⟨rfl, k, off, cap, rfl⟩)
    · exact .inr (.inr ⟨k, off, cap, cs, el, ro, rfl, hs.2 k _ hg (hv _ _ _ rfl hz), h1, h2⟩)

section
variable {P : Program} {h : Heap} {v : Value} {rows : List (List Value)} {sz : Nat}

theorem RowS.builtin {t e : TypeId} (r : RowS h sz v rows) (hu : P.underlying t = some (.slice e)) (h' : Heap) : aBuiltin P h' .len [t] [v] = some (.int .i64 rows.length, h') := by
  rcases r with ⟨rfl, rfl⟩ | ⟨rfl, k, off, c, rfl⟩ | ⟨k, off, cap, cs, el, ro, rfl, _⟩ <;> simp [aBuiltin, AM.aLen, hu]

theorem RowS.index {t e : TypeId} {i : TypeInfo} (r : RowS h sz v rows) (hu : P.underlying t = some (.slice e)) (hi : P.info? e = some i) (hs : i.size = sz) {j : Nat} {kd : IntKind} (hj : j < rows.length) :
    ∃ k off, aIndexAddr P t v (.int kd j) = some (.pointer (some ⟨k, off, none⟩)) ∧ rdN h k off sz = some rows[j] ∧ ∀ c, c < sz → rd1 h k (off + c) = rows[j][c]? := by
  rcases r with ⟨rfl, rfl⟩ | ⟨rfl, k, off, c, rfl⟩ | ⟨k, off, cap, cs, el, ro, rfl, hg, h1, h2⟩
  · simp at hj
  · simp at hj
  · have hle : sz * (j + 1) ≤ sz * rows.length := Nat.mul_le_mul_left _ hj
    rw [Nat.mul_add, Nat.mul_one] at hle
    refine ⟨k, off + sz * j, ?_, ?_, fun c hc => ?_⟩
    · simp only [aIndexAddr, hu, hi, hs, Int.toNat_natCast]
      rw [if_pos ⟨by omega, by omega⟩, Nat.mul_comm]
    · have : Nat.ble (off + sz * j + sz) cs.length = true := ble_iff.2 (by omega)
      simp only [rdN, hg, this, cond_true, h2 j hj]
    · have : ((cs.drop (off + sz * j)).take sz)[c]? = rows[j][c]? := by rw [h2 j hj]
      rw [List.getElem?_take, if_pos hc, List.getElem?_drop] at this
      simp only [rd1, hg, this]
end

theorem aLoad_struct {P : Program} {h : Heap} {t : TypeId} {fs : Array Field} {i : TypeInfo} {k off : Nat} (hu : P.underlying t = some (.struct fs)) (hi : P.info? t = some i) : aLoad P h t (.pointer (some ⟨k, off, none⟩)) = (rdN h k off i.size).map fun l => .agg l.toArray := by
  simp only [aLoad, hu, hi]
  cases rdN h k off i.size <;> rfl

section
variable {P : Program} {ops : Array Oper} {Q : List Rec → List Value → Heap → Prop} {env : List Value} {h : Heap} {l : List Oper} {acc : List Rec} {d : Option Tmp} {ty : TypeId} {ps : String} {af : Array Edge}

def DH (P : Program) (ops : Array Oper) (Q : List Rec → List Value → Heap → Prop) (l : List Oper) (acc : List Rec) (o : Oper) (env : List Value) (h : Heap) : Option (Value × Heap) → Prop
  | some (v, h') => WDraw P ops Q l (⟨o, true, env, h, v, h'⟩ :: acc) (aPut env o.dst v) h'
  | none => False
theorem DH_some {o : Oper} {v : Value} {h' : Heap} : DH P ops Q l acc o env h (some (v, h')) = WDraw P ops Q l (⟨o, true, env, h, v, h'⟩ :: acc) (aPut env o.dst v) h' := (rfl)
theorem WDraw_nil : WDraw P ops Q [] acc env h = Q acc.reverse env h := (rfl)
theorem WDraw_plain {op : Op} (hc : aCallee op (aEval env) = none) : WDraw P ops Q (⟨d, op, ty, ps, af, none⟩ :: l) acc env h = DH P ops Q l acc ⟨d, op, ty, ps, af, none⟩ env h (aOp P h op (aEval env)) := by
  show (bif true then _ else _) = _
  simp only [cond_true, hc]
  cases aOp P h op (aEval env) with
  | none => rfl
  | some r => cases r; rfl
theorem WDraw_move {x : Operand} : WDraw P ops Q (⟨d, .move x, ty, ps, af, none⟩ :: l) acc env h = WDraw P ops Q l (⟨⟨d, .move x, ty, ps, af, none⟩, true, env, h, aEval env x, h⟩ :: acc) (aPut env d (aEval env x)) h := (WDraw_plain rfl)
theorem WDraw_assign {x : Operand} : WDraw P ops Q (⟨d, .assign x, ty, ps, af, none⟩ :: l) acc env h = WDraw P ops Q l (⟨⟨d, .assign x, ty, ps, af, none⟩, true, env, h, aEval env x, h⟩ :: acc) (aPut env d (aEval env x)) h := (WDraw_plain rfl)
theorem WDraw_op {op : Op} {v : Value} {h' : Heap} (hc : aCallee op (aEval env) = none) (ha : aOp P h op (aEval env) = some (v, h')) : WDraw P ops Q (⟨d, op, ty, ps, af, none⟩ :: l) acc env h = WDraw P ops Q l (⟨⟨d, op, ty, ps, af, none⟩, true, env, h, v, h'⟩ :: acc) (aPut env d v) h' := by
  rw [WDraw_plain hc, ha]; rfl
theorem WDraw_call {g : FuncId} {as : Array Operand} {ts : Array TypeId} : WDraw P ops Q (⟨d, .call ⟨.value (.func g), as, ts⟩, ty, ps, af, none⟩ :: l) acc env h =
    Cl P g (as.toList.map (aEval env)) h fun v h' => WDraw P ops Q l (⟨⟨d, .call ⟨.value (.func g), as, ts⟩, ty, ps, af, none⟩, true, env, h, v, h'⟩ :: acc) (aPut env d v) h' := by
  show (bif true then _ else _) = _
  simp only [cond_true, aCallee, aEval]
  simp
theorem Wp.draw' {id : Nat} {Q : AX → List Value → Heap → Prop} (b : List Nat) (hb : befs ops.toList [] = b) (hw : WDraw P ops (fun recs e h' => readsOK P b recs recs 0 = true ∧ Q .normal e h') ops.toList [] env h) : Wp P (.region id ops true) Q env h := by
  subst hb; exact Wp.draw hw
theorem Wp.draw'' {id : Nat} {Q : AX → List Value → Heap → Prop} (hw : ∀ b, b = befs ops.toList [] → WDraw P ops (fun recs e h' => readsOK P b recs recs 0 = true ∧ Q .normal e h') ops.toList [] env h) : Wp P (.region id ops true) Q env h := Wp.draw (hw _ rfl)
theorem withH_val {v : Value} : withH h (some v) = some (v, h) := (rfl)
theorem aOp_load {t : TypeId} {a : Operand} {ρ : Operand → Value} : aOp P h (.load t a) ρ = withH h (aLoad P h t (ρ a)) := (rfl)
theorem aOp_convert {s t : TypeId} {a : Operand} {ρ : Operand → Value} : aOp P h (.convert s t a) ρ = aConv P h s t (ρ a) := (rfl)
theorem WDraw_load {t : TypeId} {a : Operand} : WDraw P ops Q (⟨d, .load t a, ty, ps, af, none⟩ :: l) acc env h = DH P ops Q l acc ⟨d, .load t a, ty, ps, af, none⟩ env h (withH h (aLoad P h t (aEval env a))) := (WDraw_plain rfl)
theorem WDraw_convert {s t : TypeId} {a : Operand} : WDraw P ops Q (⟨d, .convert s t a, ty, ps, af, none⟩ :: l) acc env h = DH P ops Q l acc ⟨d, .convert s t a, ty, ps, af, none⟩ env h (aConv P h s t (aEval env a)) := (WDraw_plain rfl)
theorem WDraw_fieldAddr {t : TypeId} {x : Operand} {f : Nat} : WDraw P ops Q (⟨d, .fieldAddr t x f, ty, ps, af, none⟩ :: l) acc env h = DH P ops Q l acc ⟨d, .fieldAddr t x f, ty, ps, af, none⟩ env h (withH h (aFieldAddr P t (aEval env x) f)) := (WDraw_plain rfl)
theorem WDraw_binOp {op : BinOp} {t y : TypeId} {a b : Operand} : WDraw P ops Q (⟨d, .binOp op t a b y, ty, ps, af, none⟩ :: l) acc env h = DH P ops Q l acc ⟨d, .binOp op t a b y, ty, ps, af, none⟩ env h (withH h (aBin P op t a b (aEval env a) (aEval env b))) := (WDraw_plain rfl)
theorem WDraw_unOp {op : UnOp} {t : TypeId} {a : Operand} : WDraw P ops Q (⟨d, .unOp op t a, ty, ps, af, none⟩ :: l) acc env h = DH P ops Q l acc ⟨d, .unOp op t a, ty, ps, af, none⟩ env h (withH h (aUn op (aEval env a))) := (WDraw_plain rfl)
theorem WDraw_builtin {b : Builtin} {as : Array Operand} {ts : Array TypeId} : WDraw P ops Q (⟨d, .call ⟨.builtin b, as, ts⟩, ty, ps, af, none⟩ :: l) acc env h = DH P ops Q l acc ⟨d, .call ⟨.builtin b, as, ts⟩, ty, ps, af, none⟩ env h (aBuiltin P h b ts.toList (as.toList.map (aEval env))) := (WDraw_plain rfl)
def DNil (P : Program) (ops : Array Oper) (Q : List Rec → List Value → Heap → Prop) (l : List Oper) (acc : List Rec) (o : Oper) (env : List Value) (h : Heap) : Value → Prop
  | .pointer (some a) => WDraw P ops Q l (⟨o, true, env, h, .pointer (some a), h⟩ :: acc) (aPut env o.dst (.pointer (some a))) h
  | _ => False
theorem DNil_ptr {o : Oper} {a : Addr} : DNil P ops Q l acc o env h (.pointer (some a)) = WDraw P ops Q l (⟨o, true, env, h, .pointer (some a), h⟩ :: acc) (aPut env o.dst (.pointer (some a))) h := (rfl)
theorem WDraw_nilCheck {x : Operand} : WDraw P ops Q (⟨d, .nilCheck x, ty, ps, af, none⟩ :: l) acc env h = DNil P ops Q l acc ⟨d, .nilCheck x, ty, ps, af, none⟩ env h (aEval env x) := by
  rw [WDraw_plain rfl]
  simp only [aOp]
  cases aEval env x <;> first | rfl | (rename_i t; cases t <;> rfl)
theorem Wp.cut {c : Code} {Q : AX → List Value → Heap → Prop} (I : List Value → Heap → Prop) (h0 : I env h) (hw : ∀ e hh, I e hh → Wp P c Q e hh) : Wp P c Q env h := hw _ _ h0
theorem aOp_nilCheck {x : Operand} {a : Addr} {ρ : Operand → Value} (hx : ρ x = .pointer (some a)) : aOp P h (.nilCheck x) ρ = some (.pointer (some a), h) := by simp only [aOp, hx]
theorem aOp_fieldAddr {t : TypeId} {x : Operand} {f : Nat} {ρ : Operand → Value} : aOp P h (.fieldAddr t x f) ρ = withH h (aFieldAddr P t (ρ x) f) := (rfl)
theorem aOp_binOp {op : BinOp} {t y : TypeId} {a b : Operand} {ρ : Operand → Value} : aOp P h (.binOp op t a b y) ρ = withH h (aBin P op t a b (ρ a) (ρ b)) := (rfl)
end
end Go.AM
