/-
  The engine of this proof, for any program: rules for walks: code, lists of operations, calls. No condition.
-/
import Derived.RangeFuncBound
import Derived.OwnWalkIn
import Derived.OrdersIn
set_option linter.unusedVariables false
set_option linter.unusedSimpArgs false
namespace KE
open Go

theorem beq_ne {a b : Nat} (h : ¬ a = b) : Nat.beq a b = false := by
  cases e : Nat.beq a b with
  | false => rfl
  | true => exact absurd (Nat.eq_of_beq_eq_true e) h
theorem beq_self (a : Nat) : Nat.beq a a = true := by induction a with
  | zero => rfl
  | succ n ih => exact ih

/-- every function may be called, at whatever depth -/
def Fe (r : Option Nat) : Fence := { fn := fun _ => True, depth := none, alive := false, round := r }
theorem Fe_none : Fe none = Fence.wide := rfl
theorem Fe_room (r : Option Nat) (n : Nat) : (Fe r).room n := fun _ h => by simp [Fe] at h

/-- the frame as a function -/
def upd (ρ : Nat → Value) (d : Nat) (v : Value) : Nat → Value := fun k => bif Nat.beq k d then v else ρ k
def updO (ρ : Nat → Value) (d : Option Nat) (v : Value) : Nat → Value := match d with | some d => upd ρ d v | none => ρ
def ev (ρ : Nat → Value) : Operand → Value
  | .tmp t => ρ t
  | .const v => v
  | .global g => .pointer (some ⟨g, 0, none⟩)
  | .func f => .func (.func f) #[] #[]
def mk (r : Nat) : Deferred := { target := .collected r, args := #[] }
def Fits (N : Nat) (a : Act) (ρ : Nat → Value) (ds : List Nat) : Prop := a.tmps.size = N ∧ (∀ k, a.tmps.getD k undef = ρ k) ∧ a.defers = ds.map mk
theorem Fits.eval {N : Nat} {a : Act} {ρ : Nat → Value} {ds : List Nat} (h : Fits N a ρ ds) : a.eval = ev ρ := by
  funext x
  cases x with
  | tmp t => exact h.2.1 t
  | const v => rfl
  | global g => rfl
  | func f => rfl
def okD (N : Nat) : Option Nat → Bool
  | some d => Nat.blt d N
  | none => true
theorem Fits.put {N : Nat} {a : Act} {ρ : Nat → Value} {ds : List Nat} (h : Fits N a ρ ds) {d : Option Nat} (hd : okD N d = true) (v : Value) : Fits N (a.put d v) (updO ρ d v) ds := by
  obtain ⟨h1, h2, h3⟩ := h
  cases d with
  | none => exact ⟨h1, h2, h3⟩
  | some d =>
    have hlt : d < N := by
      have : d + 1 ≤ N := by simpa [okD, Nat.blt] using hd
      exact this
    refine ⟨by simp [Act.put, h1], fun k => ?_, h3⟩
    simp only [Act.put, updO, upd]
    by_cases e : k = d
    · subst e; simp [h1, hlt]
    · have : Nat.beq k d = false := beq_ne e
      rw [this, ← h2 k]
      simp [Array.getElem?_setIfInBounds_ne (Ne.symm e)]

abbrev QE := Exit → (Nat → Value) → List Nat → World → Prop
def QA (N : Nat) (Q : QE) : Exit → Act → World → Prop := fun e a w => ∃ ρ ds, Fits N a ρ ds ∧ Q e ρ ds w

/-- a call -/
def CC (P : Program) (f : FuncId) (args : Array Value) (w : World) (R : Value → World → Prop) : Prop :=
  CallsIn (Fe none) 0 P f args w fun e w' => ∃ v, e = .returned v ∧ R v w'
theorem CC.mono {P : Program} {f : FuncId} {args : Array Value} {w : World} {R R' : Value → World → Prop} (h : CC P f args w R) (hr : ∀ v w', R v w' → R' v w') : CC P f args w R' :=
  CallsIn.mono h fun _ _ ⟨v, e, r⟩ => ⟨v, e, hr _ _ r⟩
theorem CC.calls {P : Program} {f : FuncId} {args : Array Value} {w : World} {R : Value → World → Prop} (h : CC P f args w R) : Calls P f args w fun e w' => ∃ v, e = .returned v ∧ R v w' :=
  callsIn_wide.1 h
/-- a call of yield: one round -/
def YY (P : Program) (l : Nat) (args : Array Value) (w : World) (R : Value → World → Prop) : Prop :=
  YieldAt (Fe none) 0 P l args w fun e w' => ∃ v, e = .returned v ∧ R v w'
theorem YY.mono {P : Program} {l : Nat} {args : Array Value} {w : World} {R R' : Value → World → Prop} (h : YY P l args w R) (hr : ∀ v w', R v w' → R' v w') : YY P l args w R' :=
  YieldAt.mono h fun _ _ ⟨v, e, r⟩ => ⟨v, e, hr _ _ r⟩

/-- one operation -/
def St (P : Program) (o : Oper) (ρ : Nat → Value) (w : World) (K : Value → World → Prop) : Prop :=
  (match o.op with | .defer _ => False | _ => True) ∧
  match (execOp (ev ρ) o).run P w with
  | .ok (.value v) w' => K v w'
  | .ok .skip w' => K undef w'
  | .ok (.enter f args) w' => CC P f args w' K
  | .ok (.round l f tmps asg body) w' => RoundIn (Fe none) 0 P l f tmps asg body w' fun e w'' => ∃ v, e = .returned v ∧ K v w''
  | _ => False
theorem St.mono {P : Program} {o : Oper} {ρ : Nat → Value} {w : World} {K K' : Value → World → Prop} (h : St P o ρ w K) (hk : ∀ v w', K v w' → K' v w') : St P o ρ w K' := by
  refine ⟨h.1, ?_⟩
  have h2 := h.2
  revert h2
  cases (execOp (ev ρ) o).run P w with
  | halt x w' => exact id
  | ok x w' =>
    cases x <;> intro h2 <;> first
      | exact hk _ _ h2
      | exact CC.mono h2 hk
      | exact RoundIn.mono h2 (fun _ _ ⟨v, e, r⟩ => ⟨v, e, hk _ _ r⟩)
      | exact h2
theorem RoundIn_fe {r : Option Nat} {n : Nat} {P : Program} {l : Nat} {f : FuncId} {tmps : Array Value} {asg body : Code} {w : World} {R : Ending → World → Prop}
    (h : RoundIn (Fe none) n P l f tmps asg body w R) : RoundIn (Fe r) n P l f tmps asg body w R := h
theorem CallsIn_fe {r : Option Nat} {n : Nat} {P : Program} {f : FuncId} {args : Array Value} {w : World} {R : Ending → World → Prop}
    (h : CallsIn (Fe none) n P f args w R) : CallsIn (Fe r) n P f args w R := h
theorem St.wpIn {P : Program} {o : Oper} {ρ : Nat → Value} {w : World} {K : Value → World → Prop} {a : Act} {r : Option Nat} {next : Act → World → Prop} {Q : Exit → Act → World → Prop}
    (hev : (execOp a.eval o) = execOp (ev ρ) o) (h : St P o ρ w K) (hn : ∀ v w', K v w' → next (a.put o.dst v) w') : o.wpIn (Fe r) 0 P a w next Q := by
  obtain ⟨h1, h2⟩ := h
  refine ⟨fun _ _ => trivial, ?_⟩
  rw [Oper.semAt_plain (Fe r) _ _ (by intro c hc; rw [hc] at h1; exact h1), hev]
  revert h2
  cases (execOp (ev ρ) o).run P w with
  | halt x w' => exact fun h => h.elim
  | ok x w' =>
    cases x <;> intro h2 <;> first
      | exact hn _ _ h2
      | exact ⟨by simp [Fe], CallsIn_fe (CallsIn.mono h2 (fun e w' he => by obtain ⟨v, rfl, hk⟩ := he; exact hn _ _ hk))⟩
      | exact ⟨by simp [Fe], RoundIn_fe (RoundIn.mono h2 (fun e w' he => by obtain ⟨v, rfl, hk⟩ := he; exact hn _ _ hk))⟩
      | exact h2.elim

/-- code, on the frame as a function -/
def WC (P : Program) (r : Option Nat) (N : Nat) (c : Code) (Q : QE) (ρ : Nat → Value) (ds : List Nat) (w : World) : Prop :=
  ∀ a, Fits N a ρ ds → c.wpIn (Fe r) 0 P (QA N Q) a w
section
variable {P : Program} {r : Option Nat} {N : Nat} {Q : QE} {ρ : Nat → Value} {ds : List Nat} {w : World}
theorem WC.mono {c : Code} {Q' : QE} (h : WC P r N c Q ρ ds w) (hq : ∀ e ρ ds w, Q e ρ ds w → Q' e ρ ds w) : WC P r N c Q' ρ ds w :=
  fun a ha => wpIn_mono (h a ha) fun e _ _ ⟨ρ, ds, f, q⟩ => ⟨ρ, ds, f, hq e ρ ds _ q⟩
theorem WC.skip (h : Q .normal ρ ds w) : WC P r N .skip Q ρ ds w := fun a ha => wpIn_skip ⟨ρ, ds, ha, h⟩
theorem WC.ret (h : Q .ret ρ ds w) : WC P r N .ret Q ρ ds w := fun a ha => wpIn_ret ⟨ρ, ds, ha, h⟩
theorem WC.exit {id : Nat} (h : Q (.exit id) ρ ds w) : WC P r N (.exit id) Q ρ ds w := fun a ha => wpIn_exit ⟨ρ, ds, ha, h⟩
theorem WC.label {l : Nat} (h : Q .normal ρ ds w) : WC P r N (.label l) Q ρ ds w := fun a ha => wpIn_label ⟨ρ, ds, ha, h⟩
def thenE (K : (Nat → Value) → List Nat → World → Prop) (Q : QE) : QE
  | .normal => K
  | e => Q e
theorem WC.seq {x y : Code} (h : WC P r N x (thenE (WC P r N y Q) Q) ρ ds w) : WC P r N (.seq x y) Q ρ ds w := fun a ha =>
  wpIn_seq (wpIn_mono (h a ha) fun e a' w' ⟨ρ', ds', f, q⟩ => by
    cases e <;> first | exact q a' f | exact ⟨ρ', ds', f, q⟩)
def blockE (id : Nat) (Q : QE) : QE
  | .exit i => bif Nat.beq i id then Q .normal else Q (.exit i)
  | e => Q e
theorem WC.block {id : Nat} {c : Code} (h : WC P r N c (blockE id Q) ρ ds w) : WC P r N (.block id c) Q ρ ds w := fun a ha =>
  wpIn_block (wpIn_mono (h a ha) fun e a' w' ⟨ρ', ds', f, q⟩ => by
    cases e with
    | exit i =>
      simp only [Exit.inBlock]
      by_cases hi : i = id
      · subst hi
        have : Nat.beq i i = true := beq_self i
        simp only [blockE, this, cond_true] at q
        rw [if_pos rfl]; exact ⟨ρ', ds', f, q⟩
      · have : Nat.beq i id = false := beq_ne hi
        simp only [blockE, this, cond_false] at q
        rw [if_neg hi]; exact ⟨ρ', ds', f, q⟩
    | _ => exact ⟨ρ', ds', f, q⟩)
theorem WC.cond {c : Operand} {x y : Code} (b : Bool) (hc : ev ρ c = .bool b) (ht : b = true → WC P r N x Q ρ ds w) (hf : b = false → WC P r N y Q ρ ds w) : WC P r N (.cond c x y) Q ρ ds w := fun a ha =>
  wpIn_cond_split (t := b) (by rw [ha.eval]; exact hc) (fun h => ht h a ha) (fun h => hf h a ha)
theorem WC.loop {c : Code} (I : (Nat → Value) → List Nat → World → Prop) (μ : (Nat → Value) → World → Nat) (h0 : I ρ ds w)
    (hr : ∀ ρ ds w, I ρ ds w → WC P r N c (thenE (fun ρ' ds' w' => I ρ' ds' w' ∧ μ ρ' w' < μ ρ w) Q) ρ ds w) : WC P r N (.loop c) Q ρ ds w := fun a ha =>
  wpIn_loop (fun a w => ∃ ρ ds, Fits N a ρ ds ∧ I ρ ds w) (fun a w => μ (fun k => a.tmps.getD k undef) w) ⟨ρ, ds, ha, h0⟩ fun a w ⟨ρ, ds, f, hi⟩ =>
    wpIn_mono (hr ρ ds w hi a f) fun e a' w' ⟨ρ', ds', f', q⟩ => by
      cases e <;> first
        | (refine ⟨⟨ρ', ds', f', q.1⟩, ?_⟩
           have e1 : (fun k => a.tmps.getD k undef) = ρ := funext f.2.1
           have e2 : (fun k => a'.tmps.getD k undef) = ρ' := funext f'.2.1
           rw [e1, e2]; exact q.2)
        | exact ⟨ρ', ds', f', q⟩

/-- a list of operations, in this order -/
def WL (P : Program) (r : Option Nat) (N : Nat) (ops : Array Oper) (Q : QE) (l : List Oper) (ρ : Nat → Value) (ds : List Nat) (w : World) : Prop :=
  ∀ a, Fits N a ρ ds → wpListIn (Fe r) 0 P ops (QA N Q) l a w
theorem WC.region {id : Nat} {l : List Oper} (h : WL P r N l.toArray Q l ρ ds w) : WC P r N (.region id l.toArray false) Q ρ ds w := fun a ha =>
  wpIn_region_list (by simpa using h a ha)
theorem WL.nil {ops : Array Oper} (h : Q .normal ρ ds w) : WL P r N ops Q [] ρ ds w := fun a ha => wpListIn_nil ⟨ρ, ds, ha, h⟩
theorem WL.st {ops : Array Oper} {o : Oper} {rest : List Oper} (hg : o.guard = none) (hd : okD N o.dst = true)
    (h : St P o ρ w fun v w' => WL P r N ops Q rest (updO ρ o.dst v) ds w') : WL P r N ops Q (o :: rest) ρ ds w := fun a ha => by
  refine wpListIn_plain hg fun K hK => ?_
  exact St.wpIn (by rw [ha.eval]) h fun v w' hn => hK _ _ (hn _ (ha.put hd v))
def yieldE (ops : Array Oper) (ρ : Nat → Value) (j : Nat) : Option Bool :=
  match (ops[j]?).bind (·.dst) with
  | some t => match ρ t with | .bool b => some b | _ => none
  | none => none
theorem yielded_eq {ops : Array Oper} {a : Act} (ha : Fits N a ρ ds) (j : Nat) : yielded ops a.tmps j = yieldE ops ρ j := by
  unfold yielded yieldE
  cases (ops[j]?).bind (·.dst) with
  | none => rfl
  | some t =>
    simp only [Option.bind_some]
    rw [← ha.2.1 t]
    cases h : a.tmps[t]? with
    | none => simp [h, undef]
    | some v => simp only [Option.bind_some, h, Array.getD_eq_getD_getElem?, Option.getD_some]; cases v <;> rfl
theorem WL.guard_no {ops : Array Oper} {o : Oper} {rest : List Oper} (hd : okD N o.dst = true) (hw : Region.wanted o (yieldE ops ρ) = false) (h : WL P r N ops Q rest (updO ρ o.dst undef) ds w) : WL P r N ops Q (o :: rest) ρ ds w := fun a ha => by
  refine wpListIn_step fun K hK => ?_
  rw [show yielded ops a.tmps = yieldE ops ρ from funext (yielded_eq ha), hw]
  exact ⟨fun _ _ => trivial, hK _ _ (h _ (ha.put hd undef))⟩
theorem WL.guard_yes {ops : Array Oper} {o : Oper} {rest : List Oper} (hd : okD N o.dst = true) (hw : Region.wanted o (yieldE ops ρ) = true)
    (h : St P o ρ w fun v w' => WL P r N ops Q rest (updO ρ o.dst v) ds w') : WL P r N ops Q (o :: rest) ρ ds w := fun a ha => by
  refine wpListIn_step fun K hK => ?_
  rw [show yielded ops a.tmps = yieldE ops ρ from funext (yielded_eq ha), hw]
  exact St.wpIn (by rw [ha.eval]) h fun v w' hn => hK _ _ (hn _ (ha.put hd v))
end

/-- a function's results, at its end -/
def RetM (P : Program) (fn : Func) (R : Value → World → Prop) (ρ : Nat → Value) : List Nat → World → Prop
  | [], w => ∀ tmps : Array Value, (∀ k, tmps.getD k undef = ρ k) → ∃ v, (results fn tmps).run P w = .ok v w ∧ R v w
  | d :: ds, w => w.heap[d]? = some (.deferred (some [])) ∧ RetM P fn R ρ ds (w.putObj d (.deferred none))
def retE (P : Program) (fn : Func) (R : Value → World → Prop) : QE
  | .normal, ρ, ds, w => RetM P fn R ρ ds w
  | .ret, ρ, ds, w => RetM P fn R ρ ds w
  | _, _, _, _ => False
theorem RetM.leaves {P : Program} {fn : Func} {R : Value → World → Prop} {ρ : Nat → Value} {tmps : Array Value} (ht : ∀ k, tmps.getD k undef = ρ k) : ∀ (ds : List Nat) (w : World), RetM P fn R ρ ds w →
    LeavesInM (Fe none) 0 P fn tmps (fun e w' => ∃ v, e = .returned v ∧ R v w') (ds.map mk) .returning w
  | [], w, h => by
    obtain ⟨v, h1, h2⟩ := h tmps ht
    exact ⟨v, h1, v, rfl, h2⟩
  | d :: ds, w, h => ⟨by simp, .inl ⟨d, _, rfl, run_takeDeferred h.1, RetM.leaves ht ds _ h.2⟩⟩
theorem atRet {P : Program} {fn : Func} {R : Value → World → Prop} {ρ : Nat → Value} {ds : List Nat} {w : World} (h : RetM P fn R ρ ds w) : retE P fn R .ret ρ ds w := h
theorem atEnd {P : Program} {fn : Func} {R : Value → World → Prop} {ρ : Nat → Value} {ds : List Nat} {w : World} (h : RetM P fn R ρ ds w) : retE P fn R .normal ρ ds w := h
def ent (args : List Value) : Nat → Value := fun k => args.getD k undef
theorem CC.of {P : Program} {f : FuncId} {fn : Func} {c : Code} {N : Nat} {args : List Value} {w : World} {R : Value → World → Prop}
    (hf : P.funcs[f]? = some fn) (hb : fn.body = some c) (hN : fn.ntmps = N) (ha : Nat.ble args.length N = true)
    (h : WC P none N c (retE P fn R) (ent args) [] w) : CC P f args.toArray w R := by
  have ha := Nat.le_of_ble_eq_true ha
  refine callsIn_of_wp_marks hf hb trivial ?_ rfl
  have hfit : Fits N { tmps := args.toArray ++ Array.replicate (fn.ntmps - args.toArray.size) undef, defers := [] } (ent args) [] := by
    refine ⟨by simp [hN]; omega, fun k => ?_, rfl⟩
    simp only [ent, Array.getD_eq_getD_getElem?, List.getD_eq_getElem?_getD, Array.getElem?_append, List.size_toArray]
    split
    · simp
    · rename_i hk
      rw [List.getElem?_eq_none (by omega)]
      simp only [Array.getElem?_replicate]
      split <;> simp
  refine wpIn_mono (h _ hfit) ?_
  rintro e a w' ⟨ρ, ds, f, q⟩
  cases e with
  | normal => show LeavesInM _ _ _ _ _ _ _ _ _; rw [f.2.2]; exact RetM.leaves f.2.1 ds w' q
  | ret => show LeavesInM _ _ _ _ _ _ _ _ _; rw [f.2.2]; exact RetM.leaves f.2.1 ds w' q
  | exit i => exact q
  | goto i => exact q
  | panic c => exact q.elim
  | outgrown => exact q.elim
end KE
