/- The abstract machine, part 12: code and calls: what the abstract machine comes to, the model comes to. -/
import Derived.Test.YtafnialikielkaaAm11
namespace Go.AM
open Go

def AX.conc : AX → Exit
  | .normal => .normal
  | .exit id => .exit id
  | .ret => .ret

section
variable {P : Program} {cf : CallF}

theorem aexec_sim (G : P.follows .mixedOrders = true) (CS : CallSim P cf) : ∀ (n : Nat),
    (∀ (c : Code) (env : List Value) (h : Heap) (ax : AX) (env' : List Value) (h' : Heap), codeOK P c = true → aexec P cf n c env h = some (ax, env', h') →
      ∀ (m : Mp) (w : World) (a : Act) (Q : Exit → Act → World → Prop), Rel P m h w → ERel m env a →
        (∀ m' w' a', Rel P m' h' w' → ERel m' env' a' → Fr m h w m' h' w' → Q ax.conc a' w') → c.wp P Q a w) ∧
    (∀ (c : Code) (env : List Value) (h : Heap) (ax : AX) (env' : List Value) (h' : Heap), codeOK P c = true → aexec P cf n (.loop c) env h = some (ax, env', h') →
      ∀ (m : Mp) (w : World) (a : Act) (Q : Exit → Act → World → Prop), Rel P m h w → ERel m env a →
        (∀ m' w' a', Rel P m' h' w' → ERel m' env' a' → Fr m h w m' h' w' → Q ax.conc a' w') → Code.rounds P c Q n a w) := by
  intro n
  induction n with
  | zero => exact ⟨fun c env h ax env' h' _ ha => by simp [aexec] at ha, fun c env h ax env' h' _ ha => by simp [aexec] at ha⟩
  | succ n ih =>
    obtain ⟨ih1, ih2⟩ := ih
    have loops : ∀ (c : Code) (env : List Value) (h : Heap) (ax : AX) (env' : List Value) (h' : Heap), codeOK P c = true → aexec P cf (n + 1) (.loop c) env h = some (ax, env', h') →
        ∀ (m : Mp) (w : World) (a : Act) (Q : Exit → Act → World → Prop), Rel P m h w → ERel m env a →
          (∀ m' w' a', Rel P m' h' w' → ERel m' env' a' → Fr m h w m' h' w' → Q ax.conc a' w') → Code.rounds P c Q (n + 1) a w := by
      intro c env h ax env' h' hc ha m w a Q R E K
      rw [rounds_succ]
      simp only [aexec] at ha
      split at ha
      · rename_i e1 h1 hx
        refine ih1 c env h .normal e1 h1 hc hx m w a _ R E fun m1 w1 a1 R1 E1 F1 => ?_
        exact ih2 c e1 h1 ax env' h' hc ha m1 w1 a1 Q R1 E1 fun m2 w2 a2 R2 E2 F2 => K m2 w2 a2 R2 E2 (F1.trans F2)
      · rename_i hne
        refine ih1 c env h ax env' h' hc ha m w a _ R E fun m1 w1 a1 R1 E1 F1 => ?_
        cases ax with
        | normal => exact absurd ha (hne _ _)
        | exit id => exact K m1 w1 a1 R1 E1 F1
        | ret => exact K m1 w1 a1 R1 E1 F1
    refine ⟨?_, loops⟩
    intro c env h ax env' h' hc ha m w a Q R E K
    cases c with
    | skip =>
      simp only [aexec] at ha
      injection ha with ha; injection ha with e1 e2; injection e2 with e2 e3; subst e1; subst e2; subst e3
      exact wp_skip (K m w a R E (Fr.refl m h w))
    | label l =>
      simp only [aexec] at ha
      injection ha with ha; injection ha with e1 e2; injection e2 with e2 e3; subst e1; subst e2; subst e3
      exact wp_label (K m w a R E (Fr.refl m h w))
    | ret =>
      simp only [aexec] at ha
      injection ha with ha; injection ha with e1 e2; injection e2 with e2 e3; subst e1; subst e2; subst e3
      exact wp_ret (K m w a R E (Fr.refl m h w))
    | exit id =>
      simp only [aexec] at ha
      injection ha with ha; injection ha with e1 e2; injection e2 with e2 e3; subst e1; subst e2; subst e3
      exact wp_exit (K m w a R E (Fr.refl m h w))
    | region id ops draw =>
      simp only [codeOK, Bool.and_eq_true, Bool.or_eq_true, Bool.not_eq_true'] at hc
      obtain ⟨hc1, hc2⟩ := hc
      have hok : ∀ (i : Nat) o, ops[i]? = some o → opOK P o.op = true := fun i o ho => List.all_eq_true.1 hc1 o (by rw [Array.mem_toList_iff]; exact Array.mem_of_getElem? ho)
      simp only [aexec] at ha
      cases draw with
      | true =>
        simp only [cond_true] at ha
        split at ha
        · rename_i e1 h1 hd
          injection ha with ha; injection ha with e1 e2; injection e2 with e2 e3; subst e1; subst e2; subst e3
          exact aDraw_sim G CS (by simpa using hc2) hok R E hd fun m1 w1 a1 R1 E1 F1 => K m1 w1 a1 R1 E1 F1
        · cases ha
      | false =>
        simp only [cond_false] at ha
        split at ha
        · rename_i e1 h1 hd
          injection ha with ha; injection ha with e1 e2; injection e2 with e2 e3; subst e1; subst e2; subst e3
          exact wp_region (aOps_sim CS ops hok _ m h w env a _ _ R E hd fun m1 w1 a1 R1 E1 F1 => K m1 w1 a1 R1 E1 F1)
        · cases ha
    | seq x y =>
      simp only [codeOK, Bool.and_eq_true] at hc
      simp only [aexec] at ha
      refine wp_seq ?_
      split at ha
      · rename_i e1 h1 hx
        refine ih1 x env h .normal e1 h1 hc.1 hx m w a _ R E fun m1 w1 a1 R1 E1 F1 => ?_
        exact ih1 y e1 h1 ax env' h' hc.2 ha m1 w1 a1 Q R1 E1 fun m2 w2 a2 R2 E2 F2 => K m2 w2 a2 R2 E2 (F1.trans F2)
      · rename_i hne
        refine ih1 x env h ax env' h' hc.1 ha m w a _ R E fun m1 w1 a1 R1 E1 F1 => ?_
        cases ax with
        | normal => exact absurd ha (hne _ _)
        | exit id => exact K m1 w1 a1 R1 E1 F1
        | ret => exact K m1 w1 a1 R1 E1 F1
    | cond c x y =>
      simp only [codeOK, Bool.and_eq_true] at hc
      simp only [aexec] at ha
      have hv := E.eval R c hc.1.1
      split at ha
      · rename_i hb
        rw [hb] at hv
        have hb' : a.eval c = .bool true := by cases hv' : a.eval c <;> rw [hv'] at hv <;> cases hv; rfl
        exact wp_cond_true hb' (ih1 x env h ax env' h' hc.1.2 ha m w a Q R E K)
      · rename_i hb
        rw [hb] at hv
        have hb' : a.eval c = .bool false := by cases hv' : a.eval c <;> rw [hv'] at hv <;> cases hv; rfl
        exact wp_cond_false hb' (ih1 y env h ax env' h' hc.2 ha m w a Q R E K)
      · cases ha
    | block id b =>
      simp only [codeOK] at hc
      simp only [aexec] at ha
      refine wp_block ?_
      split at ha
      · rename_i j e1 h1 hx
        refine ih1 b env h (.exit j) e1 h1 hc hx m w a _ R E fun m1 w1 a1 R1 E1 F1 => ?_
        cases hj : Nat.beq j id with
        | true =>
          rw [hj] at ha
          injection ha with ha; injection ha with e1 e2; injection e2 with e2 e3; subst e1; subst e2; subst e3
          have := Nat.eq_of_beq_eq_true hj
          subst this
          simp only [AX.conc, Exit.inBlock, if_true]
          exact K m1 w1 a1 R1 E1 F1
        | false =>
          rw [hj] at ha
          injection ha with ha; injection ha with e1 e2; injection e2 with e2 e3; subst e1; subst e2; subst e3
          simp only [AX.conc, Exit.inBlock]
          rw [if_neg (beq_false hj)]
          exact K m1 w1 a1 R1 E1 F1
      · rename_i hne
        refine ih1 b env h ax env' h' hc ha m w a _ R E fun m1 w1 a1 R1 E1 F1 => ?_
        cases ax with
        | normal => exact K m1 w1 a1 R1 E1 F1
        | exit id => exact absurd ha (hne _ _ _)
        | ret => exact K m1 w1 a1 R1 E1 F1
    | loop b => exact wp_loop_rounds (n + 1) (loops b env h ax env' h' hc ha m w a Q R E K)
    | scope b =>
      simp only [codeOK] at hc
      simp only [aexec] at ha
      refine wp_scope_straight (ih1 b env h ax env' h' hc ha m w a _ R E fun m1 w1 a1 R1 E1 F1 => ?_)
      cases ax <;> exact K m1 w1 a1 R1 E1 F1
    | rangeFunc f ps as b => simp [aexec] at ha
    | goto l => simp [aexec] at ha
    | refuse why => simp [aexec] at ha

theorem aRes_sim {m : Mp} {h : Heap} {w : World} {env : List Value} {a : Act} (R : Rel P m h w) (E : ERel m env a) : ∀ (l : List ResultVar) (vs : List Value), aRes P h env l = some vs →
    ∃ vs', (l.mapM fun
      | .tmp t => pure (a.tmps.getD t undef)
      | .cell x t => do loadVar t (← asAddr (a.tmps.getD x undef)) : Sem (List Value)).run P w = .ok vs' w ∧ VRs m vs vs'
  | [], vs, ha => by
    simp only [aRes] at ha; injection ha with ha; subst ha
    exact ⟨[], rfl, VRs.nil m⟩
  | r :: l, vs, ha => by
    simp only [aRes] at ha
    split at ha
    · rename_i v hv
      split at ha
      · rename_i us hus
        injection ha with ha; subst ha
        obtain ⟨vs', h1, h2⟩ := aRes_sim R E l us hus
        have hgd : ∀ t, VR m (env.getD t undef) (a.tmps.getD t undef) := fun t => by simpa using E.vs.getD t (VR.undef m)
        cases r with
        | tmp t =>
          injection hv with hv; subst hv
          refine ⟨a.tmps.getD t undef :: vs', ?_, VRs.cons (hgd t) h2⟩
          rw [List.mapM_cons]
          exact rpu (rb h1 rfl)
        | cell x t =>
          obtain ⟨v', c, d⟩ := aLoad_sim R (hgd x) hv
          refine ⟨v' :: vs', ?_, VRs.cons d h2⟩
          rw [List.mapM_cons]
          have hcell : (do loadVar t (← asAddr (a.tmps.getD x undef)) : Sem Value).run P w = .ok v' w := by
            have hv2 : aLoad P h t (env.getD x undef) = some v := hv
            unfold aLoad at hv2
            split at hv2
            · rename_i k off hk
              have hx := hgd x
              rw [hk] at hx
              obtain ⟨loc, _, he⟩ := ptr_inv hx
              rw [he] at c ⊢
              exact c
            · cases hv2
          exact rb hcell (rb h1 rfl)
      · cases ha
    · cases ha

theorem aResults_sim {m : Mp} {h : Heap} {w : World} {env : List Value} {a : Act} (R : Rel P m h w) (E : ERel m env a) {fn : Func} {v : Value} (ha : aResults P fn h env = some v) :
    ∃ v', (results fn a.tmps).run P w = .ok v' w ∧ VR m v v' := by
  unfold aResults at ha
  have conv : ∀ (vs' : List Value), (fn.results.toList.mapM fun
      | .tmp t => pure (a.tmps.getD t undef)
      | .cell x t => do loadVar t (← asAddr (a.tmps.getD x undef)) : Sem (List Value)).run P w = .ok vs' w →
      (results fn a.tmps).run P w = .ok (if h : vs'.toArray.size = 1 then vs'.toArray[0] else .tuple vs'.toArray) w := by
    intro vs' hr
    obtain ⟨l, hl⟩ : ∃ l : List ResultVar, fn.results = l.toArray := ⟨fn.results.toList, by simp⟩
    unfold results
    rw [hl] at hr ⊢
    simp only at hr
    refine rb (a := vs'.toArray) (w1 := w) ?_ rfl
    rw [List.mapM_toArray, Sem.run_map]
    exact congrArg (fun r => Result.andThen r (fun a w' => Result.ok (List.toArray a) w')) hr
  split at ha
  · rename_i v0 hv
    injection ha with ha; subst ha
    obtain ⟨vs', h1, h2⟩ := aRes_sim R E _ _ hv
    obtain ⟨v', l', rfl, h3, h4⟩ := VRs.cons_inv h2
    rw [VRs.nil_inv h4] at h1
    exact ⟨v', by have := conv _ h1; simpa using this, h3⟩
  · rename_i vs hne hv
    injection ha with ha; subst ha
    obtain ⟨vs', h1, h2⟩ := aRes_sim R E _ _ hv
    refine ⟨.tuple vs'.toArray, ?_, VR.tuple' h2⟩
    have := conv _ h1
    rw [dif_neg] at this
    · exact this
    · intro h1'
      have hl : vs.length = 1 := by rw [h2.1]; simpa using h1'
      match vs, hl with
      | [x], _ => exact hne x rfl
  · cases ha

/-- Calls are simulated, however deep. -/
theorem acall_sim (G : Good P) : ∀ n, CallSim P (acall P n)
  | 0 => fun g args h v h' ha => by simp [acall] at ha
  | n + 1 => by
    intro g args h v h' ha
    simp only [acall] at ha
    split at ha
    · rename_i fn hf
      split at ha
      · rename_i body hb
        obtain ⟨hc, hname⟩ := G.code g fn body hf hb
        refine ⟨⟨fn, hf, by rw [hb]; rfl, hname⟩, fun m w args' R hv => ?_⟩
        split at ha
        · rename_i ax env h1 hx
          refine calls_of_wp hf hb ?_
          have hlen : args'.size = args.length := by have := hv.1; simp at this; omega
          refine (aexec_sim G.mixed (acall_sim G n) n).1 body _ h ax env h1 hc hx m w _ _ R ⟨?_, rfl⟩ fun m1 w1 a1 R1 E1 F1 => ?_
          · simp only [Array.toList_append, Array.toList_replicate, hlen]
            exact hv.append (VRs.replicate (VR.undef m) _)
          · cases ax with
            | exit id => simp at ha
            | normal =>
              simp only at ha
              split at ha
              · rename_i v0 hr
                injection ha with ha; injection ha with e1 e2; subst e1; subst e2
                obtain ⟨v', h2, h3⟩ := aResults_sim R1 E1 hr
                exact ⟨E1.nodef, v', h2, v', m1, rfl, R1, h3, F1⟩
              · cases ha
            | ret =>
              simp only at ha
              split at ha
              · rename_i v0 hr
                injection ha with ha; injection ha with e1 e2; subst e1; subst e2
                obtain ⟨v', h2, h3⟩ := aResults_sim R1 E1 hr
                exact ⟨E1.nodef, v', h2, v', m1, rfl, R1, h3, F1⟩
              · cases ha
        · cases ha
      · cases ha
    · cases ha

/-- Nothing is known of memory. -/
def Heap.empty (P : Program) : Heap := ⟨.nil, P.globals.size⟩
def Mp.empty (P : Program) : Mp := fun g => if g < P.globals.size then some ⟨g, 0, 0, 0⟩ else none

theorem Rel.empty (w : World) (hw : P.globals.size ≤ w.heap.size) : Rel P (Mp.empty P) (Heap.empty P) w := by
  have hg : ∀ k, (Heap.empty P).get k = none := fun k => by
    unfold Heap.get Heap.empty
    cases Nat.blt k P.globals.size <;> simp [Tr.get_nil]
  constructor
  · intro k loc cs el ro _ h; rw [hg] at h; cases h
  · intro k k' loc loc' _ _ hv; obtain ⟨a, b, h⟩ := hv; rw [hg] at h; cases h
  · intro k loc h
    unfold Mp.empty at h
    split at h
    · injection h with h; subst h; simp only; omega
    · cases h
  · intro k hk
    unfold Mp.empty
    rw [if_neg (by simp only [Heap.empty] at hk; omega)]
  · intro g hg'
    exact ⟨⟨g, 0, 0, 0⟩, by unfold Mp.empty; rw [if_pos hg'], rfl, rfl⟩

/-- A row of memory that came in: it is read, not written. -/
theorem Rel.addRo {m : Mp} {h : Heap} {w : World} (R : Rel P m h w) {b off : Nat} {c : Array Value} {el : TypeId} {fr : Nat × Nat} (hb : w.heap[b]? = some (.cells c el fr)) {cs : List Value} (hno : ¬ Own m h b)
    (hl : off + cs.length ≤ c.size) (hcs : ∀ (i : Nat) (v : Value), cs[i]? = some v → ∃ v', c[off + i]? = some v' ∧ VR m v v') (h1 : ∀ (i : Nat) (v : Value), cs[i]? = some v → v.oneCell' = true) :
    Rel P (m.upd h.next ⟨b, off, c.size, eszOf P el⟩) (h.push (.cells cs el true)) w ∧ Fr m h w (m.upd h.next ⟨b, off, c.size, eszOf P el⟩) (h.push (.cells cs el true)) w := by
  have hle : m.le (m.upd h.next ⟨b, off, c.size, eszOf P el⟩) := Mp.le_upd _ (R.fresh _ (Nat.le_refl _))
  have hlt : b < w.heap.size := (Array.getElem?_eq_some_iff.1 hb).1
  have hwr : ∀ k, (h.push (.cells cs el true)).writable k → k ≠ h.next ∧ h.writable k := fun k hk => by
    obtain ⟨a, e, hg⟩ := hk
    rw [Heap.get_push] at hg
    by_cases e : k = h.next
    · rw [if_pos e] at hg; cases hg
    · rw [if_neg e] at hg; exact ⟨e, a, _, hg⟩
  constructor
  · constructor
    · intro k l cs2 el2 ro2 hk hg
      rw [Heap.get_push] at hg
      by_cases e : k = h.next
      · subst e
        rw [if_pos rfl] at hg
        rw [Mp.upd_same] at hk
        injection hk with hk; subst hk
        injection hg with hg; injection hg with e1 e2 e3; subst e1; subst e2; subst e3
        refine ⟨c, fr, hb, rfl, hl, rfl, fun i v hv => ?_, fun h => by (cases h), h1⟩
        obtain ⟨v', a, b⟩ := hcs i v hv
        exact ⟨v', a, b.mono hle⟩
      · rw [if_neg e] at hg
        rw [Mp.upd_ne _ _ _ e] at hk
        exact (R.ent k l cs2 el2 ro2 hk hg).mono hle rfl
    · intro k k' l l' hk hk' hv hv' hbb
      obtain ⟨hne, hv⟩ := hwr k hv
      rw [Mp.upd_ne _ _ _ hne] at hk
      by_cases e' : k' = h.next
      · subst e'
        rw [Mp.upd_same] at hk'; injection hk' with hk'; subst hk'
        exact absurd ⟨k, l, hk, hbb, hv⟩ hno
      · rw [Mp.upd_ne _ _ _ e'] at hk'
        refine R.inj k k' l l' hk hk' hv ?_ hbb
        obtain ⟨a, b, c, hg⟩ := hv'; rw [Heap.get_push, if_neg e'] at hg; exact ⟨a, b, c, hg⟩
    · intro k l hk
      by_cases e : k = h.next
      · subst e; rw [Mp.upd_same] at hk; injection hk with hk; subst hk; exact hlt
      · rw [Mp.upd_ne _ _ _ e] at hk; exact R.inb _ _ hk
    · intro k hk
      simp only [Heap.next_push] at hk
      rw [Mp.upd_ne _ _ _ (by omega)]
      exact R.fresh k (by omega)
    · intro g hg
      obtain ⟨l, a, b, c⟩ := R.glob g hg
      exact ⟨l, hle _ _ a, b, c⟩
  · refine ⟨rfl, rfl, rfl, Nat.le_refl _, fun _ _ _ => rfl, fun cb hcb ho => ?_, hle, by simp⟩
    obtain ⟨k, l, hk, hl', hv⟩ := ho
    obtain ⟨hne, hv⟩ := hwr k hv
    rw [Mp.upd_ne _ _ _ hne] at hk
    exact ⟨k, l, hk, hl', hv⟩

/-- Where nothing that was there may be written, all that was there stays. -/
theorem Fr.below {m : Mp} {h : Heap} {w : World} {m' : Mp} {h' : Heap} {w' : World} (F : Fr m h w m' h' w') (hno : ∀ cb, ¬ Own m h cb) :
    w'.os = w.os ∧ w'.tape = w.tape ∧ w'.output = w.output ∧ w.heap.size ≤ w'.heap.size ∧ ∀ k, k < w.heap.size → w'.heap[k]? = w.heap[k]? :=
  ⟨F.os, F.tape, F.output, F.size, fun k hk => F.keep k hk (hno k)⟩
end
end Go.AM
