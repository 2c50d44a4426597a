/-
  The engine of this proof, for any program: rules for walks, memory in parts, operations. No condition.
-/
import Derived.RangeFuncBound
import Derived.OwnWalkIn
import Derived.OrdersIn
import Derived.Below
import Derived.Laws.AppendOwn
import Derived.Laws.NewFold
set_option linter.unusedVariables false
set_option linter.unusedSimpArgs false
namespace KE
open Go
theorem beq_ne {a b : Nat} (h : ¬ a = b) : Nat.beq a b = false := by
  cases e : Nat.beq a b with
  | false => rfl
  | true => exact absurd (Nat.eq_of_beq_eq_true e) h
theorem beq_self (a : Nat) : Nat.beq a a = true := by induction a with
  | zero => rfl
  | succ n ih => exact ih
/-- every function may be called, at whatever depth -/
def Fe (r : Option Nat) : Fence := { fn := fun _ => True, depth := none, alive := false, round := r }
theorem Fe_none : Fe none = Fence.wide := rfl
theorem Fe_room (r : Option Nat) (n : Nat) : (Fe r).room n := fun _ h => by simp [Fe] at h
/-- the frame as a function -/
def upd (ρ : Nat → Value) (d : Nat) (v : Value) : Nat → Value := fun k => bif Nat.beq k d then v else ρ k
def updO (ρ : Nat → Value) (d : Option Nat) (v : Value) : Nat → Value := match d with | some d => upd ρ d v | none => ρ
def ev (ρ : Nat → Value) : Operand → Value
  | .tmp t => ρ t
  | .const v => v
  | .global g => .pointer (some ⟨g, 0, none⟩)
  | .func f => .func (.func f) #[] #[]
def mk (r : Nat) : Deferred := { target := .collected r, args := #[] }
def Fits (N : Nat) (a : Act) (ρ : Nat → Value) (ds : List Nat) : Prop := a.tmps.size = N ∧ (∀ k, a.tmps.getD k undef = ρ k) ∧ a.defers = ds.map mk
theorem Fits.eval {N : Nat} {a : Act} {ρ : Nat → Value} {ds : List Nat} (h : Fits N a ρ ds) : a.eval = ev ρ := by
  funext x
  cases x with
  | tmp t => exact h.2.1 t
  | const v => rfl
  | global g => rfl
  | func f => rfl
def okD (N : Nat) : Option Nat → Bool
  | some d => Nat.blt d N
  | none => true
theorem Fits.put {N : Nat} {a : Act} {ρ : Nat → Value} {ds : List Nat} (h : Fits N a ρ ds) {d : Option Nat} (hd : okD N d = true) (v : Value) : Fits N (a.put d v) (updO ρ d v) ds := by
  obtain ⟨h1, h2, h3⟩ := h
  cases d with
  | none => exact ⟨h1, h2, h3⟩
  | some d =>
    have hlt : d < N := by
      have : d + 1 ≤ N := by simpa [okD, Nat.blt] using hd
      exact this
    refine ⟨by simp [Act.put, h1], fun k => ?_, h3⟩
    simp only [Act.put, updO, upd]
    by_cases e : k = d
    · subst e; simp [h1, hlt]
    · have : Nat.beq k d = false := beq_ne e
      rw [this, ← h2 k]
      simp [Array.getElem?_setIfInBounds_ne (Ne.symm e)]
abbrev QE := Exit → (Nat → Value) → List Nat → World → Prop
def QA (N : Nat) (Q : QE) : Exit → Act → World → Prop := fun e a w => ∃ ρ ds, Fits N a ρ ds ∧ Q e ρ ds w
/-- a call -/
def CC (P : Program) (f : FuncId) (args : Array Value) (w : World) (R : Value → World → Prop) : Prop :=
  CallsIn (Fe none) 0 P f args w fun e w' => ∃ v, e = .returned v ∧ R v w'
theorem CC.mono {P : Program} {f : FuncId} {args : Array Value} {w : World} {R R' : Value → World → Prop} (h : CC P f args w R) (hr : ∀ v w', R v w' → R' v w') : CC P f args w R' :=
  CallsIn.mono h fun _ _ ⟨v, e, r⟩ => ⟨v, e, hr _ _ r⟩
theorem CC.calls {P : Program} {f : FuncId} {args : Array Value} {w : World} {R : Value → World → Prop} (h : CC P f args w R) : Calls P f args w fun e w' => ∃ v, e = .returned v ∧ R v w' :=
  callsIn_wide.1 h
/-- a call of yield: one round -/
def YY (P : Program) (l : Nat) (args : Array Value) (w : World) (R : Value → World → Prop) : Prop :=
  YieldAt (Fe none) 0 P l args w fun e w' => ∃ v, e = .returned v ∧ R v w'
theorem YY.mono {P : Program} {l : Nat} {args : Array Value} {w : World} {R R' : Value → World → Prop} (h : YY P l args w R) (hr : ∀ v w', R v w' → R' v w') : YY P l args w R' :=
  YieldAt.mono h fun _ _ ⟨v, e, r⟩ => ⟨v, e, hr _ _ r⟩
/-- one operation -/
def St (P : Program) (o : Oper) (ρ : Nat → Value) (w : World) (K : Value → World → Prop) : Prop :=
  (match o.op with | .defer _ => False | _ => True) ∧
  match (execOp (ev ρ) o).run P w with
  | .ok (.value v) w' => K v w'
  | .ok .skip w' => K undef w'
  | .ok (.enter f args) w' => CC P f args w' K
  | .ok (.round l f tmps asg body) w' => RoundIn (Fe none) 0 P l f tmps asg body w' fun e w'' => ∃ v, e = .returned v ∧ K v w''
  | _ => False
theorem St.mono {P : Program} {o : Oper} {ρ : Nat → Value} {w : World} {K K' : Value → World → Prop} (h : St P o ρ w K) (hk : ∀ v w', K v w' → K' v w') : St P o ρ w K' := by
  refine ⟨h.1, ?_⟩
  have h2 := h.2
  revert h2
  cases (execOp (ev ρ) o).run P w with
  | halt x w' => exact id
  | ok x w' =>
    cases x <;> intro h2 <;> first
      | exact hk _ _ h2
      | exact CC.mono h2 hk
      | exact RoundIn.mono h2 (fun _ _ ⟨v, e, r⟩ => ⟨v, e, hk _ _ r⟩)
      | exact h2
theorem RoundIn_fe {r : Option Nat} {n : Nat} {P : Program} {l : Nat} {f : FuncId} {tmps : Array Value} {asg body : Code} {w : World} {R : Ending → World → Prop}
    (h : RoundIn (Fe none) n P l f tmps asg body w R) : RoundIn (Fe r) n P l f tmps asg body w R := h
theorem CallsIn_fe {r : Option Nat} {n : Nat} {P : Program} {f : FuncId} {args : Array Value} {w : World} {R : Ending → World → Prop}
    (h : CallsIn (Fe none) n P f args w R) : CallsIn (Fe r) n P f args w R := h
theorem St.wpIn {P : Program} {o : Oper} {ρ : Nat → Value} {w : World} {K : Value → World → Prop} {a : Act} {r : Option Nat} {next : Act → World → Prop} {Q : Exit → Act → World → Prop}
    (hev : (execOp a.eval o) = execOp (ev ρ) o) (h : St P o ρ w K) (hn : ∀ v w', K v w' → next (a.put o.dst v) w') : o.wpIn (Fe r) 0 P a w next Q := by
  obtain ⟨h1, h2⟩ := h
  refine ⟨fun _ _ => trivial, ?_⟩
  rw [Oper.semAt_plain (Fe r) _ _ (by intro c hc; rw [hc] at h1; exact h1), hev]
  revert h2
  cases (execOp (ev ρ) o).run P w with
  | halt x w' => exact fun h => h.elim
  | ok x w' =>
    cases x <;> intro h2 <;> first
      | exact hn _ _ h2
      | exact ⟨by simp [Fe], CallsIn_fe (CallsIn.mono h2 (fun e w' he => by obtain ⟨v, rfl, hk⟩ := he; exact hn _ _ hk))⟩
      | exact ⟨by simp [Fe], RoundIn_fe (RoundIn.mono h2 (fun e w' he => by obtain ⟨v, rfl, hk⟩ := he; exact hn _ _ hk))⟩
      | exact h2.elim
/-- code, on the frame as a function -/
def WC (P : Program) (r : Option Nat) (N : Nat) (c : Code) (Q : QE) (ρ : Nat → Value) (ds : List Nat) (w : World) : Prop :=
  ∀ a, Fits N a ρ ds → c.wpIn (Fe r) 0 P (QA N Q) a w
section
variable {P : Program} {r : Option Nat} {N : Nat} {Q : QE} {ρ : Nat → Value} {ds : List Nat} {w : World}
theorem WC.mono {c : Code} {Q' : QE} (h : WC P r N c Q ρ ds w) (hq : ∀ e ρ ds w, Q e ρ ds w → Q' e ρ ds w) : WC P r N c Q' ρ ds w :=
  fun a ha => wpIn_mono (h a ha) fun e _ _ ⟨ρ, ds, f, q⟩ => ⟨ρ, ds, f, hq e ρ ds _ q⟩
theorem WC.skip (h : Q .normal ρ ds w) : WC P r N .skip Q ρ ds w := fun a ha => wpIn_skip ⟨ρ, ds, ha, h⟩
theorem WC.ret (h : Q .ret ρ ds w) : WC P r N .ret Q ρ ds w := fun a ha => wpIn_ret ⟨ρ, ds, ha, h⟩
theorem WC.exit {id : Nat} (h : Q (.exit id) ρ ds w) : WC P r N (.exit id) Q ρ ds w := fun a ha => wpIn_exit ⟨ρ, ds, ha, h⟩
theorem WC.label {l : Nat} (h : Q .normal ρ ds w) : WC P r N (.label l) Q ρ ds w := fun a ha => wpIn_label ⟨ρ, ds, ha, h⟩
def thenE (K : (Nat → Value) → List Nat → World → Prop) (Q : QE) : QE
  | .normal => K
  | e => Q e
theorem WC.seq {x y : Code} (h : WC P r N x (thenE (WC P r N y Q) Q) ρ ds w) : WC P r N (.seq x y) Q ρ ds w := fun a ha =>
  wpIn_seq (wpIn_mono (h a ha) fun e a' w' ⟨ρ', ds', f, q⟩ => by
    cases e <;> first | exact q a' f | exact ⟨ρ', ds', f, q⟩)
def blockE (id : Nat) (Q : QE) : QE
  | .exit i => bif Nat.beq i id then Q .normal else Q (.exit i)
  | e => Q e
theorem WC.block {id : Nat} {c : Code} (h : WC P r N c (blockE id Q) ρ ds w) : WC P r N (.block id c) Q ρ ds w := fun a ha =>
  wpIn_block (wpIn_mono (h a ha) fun e a' w' ⟨ρ', ds', f, q⟩ => by
    cases e with
    | exit i =>
      simp only [Exit.inBlock]
      by_cases hi : i = id
      · subst hi
        have : Nat.beq i i = true := beq_self i
        simp only [blockE, this, cond_true] at q
        rw [if_pos rfl]; exact ⟨ρ', ds', f, q⟩
      · have : Nat.beq i id = false := beq_ne hi
        simp only [blockE, this, cond_false] at q
        rw [if_neg hi]; exact ⟨ρ', ds', f, q⟩
    | _ => exact ⟨ρ', ds', f, q⟩)
theorem WC.cond {c : Operand} {x y : Code} (b : Bool) (hc : ev ρ c = .bool b) (ht : b = true → WC P r N x Q ρ ds w) (hf : b = false → WC P r N y Q ρ ds w) : WC P r N (.cond c x y) Q ρ ds w := fun a ha =>
  wpIn_cond_split (t := b) (by rw [ha.eval]; exact hc) (fun h => ht h a ha) (fun h => hf h a ha)
theorem WC.loop {c : Code} (I : (Nat → Value) → List Nat → World → Prop) (μ : (Nat → Value) → World → Nat) (h0 : I ρ ds w)
    (hr : ∀ ρ ds w, I ρ ds w → WC P r N c (thenE (fun ρ' ds' w' => I ρ' ds' w' ∧ μ ρ' w' < μ ρ w) Q) ρ ds w) : WC P r N (.loop c) Q ρ ds w := fun a ha =>
  wpIn_loop (fun a w => ∃ ρ ds, Fits N a ρ ds ∧ I ρ ds w) (fun a w => μ (fun k => a.tmps.getD k undef) w) ⟨ρ, ds, ha, h0⟩ fun a w ⟨ρ, ds, f, hi⟩ =>
    wpIn_mono (hr ρ ds w hi a f) fun e a' w' ⟨ρ', ds', f', q⟩ => by
      cases e <;> first
        | (refine ⟨⟨ρ', ds', f', q.1⟩, ?_⟩
           have e1 : (fun k => a.tmps.getD k undef) = ρ := funext f.2.1
           have e2 : (fun k => a'.tmps.getD k undef) = ρ' := funext f'.2.1
           rw [e1, e2]; exact q.2)
        | exact ⟨ρ', ds', f', q⟩
/-- a list of operations, in this order -/
def WL (P : Program) (r : Option Nat) (N : Nat) (ops : Array Oper) (Q : QE) (l : List Oper) (ρ : Nat → Value) (ds : List Nat) (w : World) : Prop :=
  ∀ a, Fits N a ρ ds → wpListIn (Fe r) 0 P ops (QA N Q) l a w
theorem WC.region {id : Nat} {l : List Oper} (h : WL P r N l.toArray Q l ρ ds w) : WC P r N (.region id l.toArray false) Q ρ ds w := fun a ha =>
  wpIn_region_list (by simpa using h a ha)
theorem WL.nil {ops : Array Oper} (h : Q .normal ρ ds w) : WL P r N ops Q [] ρ ds w := fun a ha => wpListIn_nil ⟨ρ, ds, ha, h⟩
theorem WL.st {ops : Array Oper} {o : Oper} {rest : List Oper} (hg : o.guard = none) (hd : okD N o.dst = true)
    (h : St P o ρ w fun v w' => WL P r N ops Q rest (updO ρ o.dst v) ds w') : WL P r N ops Q (o :: rest) ρ ds w := fun a ha => by
  refine wpListIn_plain hg fun K hK => ?_
  exact St.wpIn (by rw [ha.eval]) h fun v w' hn => hK _ _ (hn _ (ha.put hd v))
def yieldE (ops : Array Oper) (ρ : Nat → Value) (j : Nat) : Option Bool :=
  match (ops[j]?).bind (·.dst) with
  | some t => match ρ t with | .bool b => some b | _ => none
  | none => none
theorem yielded_eq {ops : Array Oper} {a : Act} (ha : Fits N a ρ ds) (j : Nat) : yielded ops a.tmps j = yieldE ops ρ j := by
  unfold yielded yieldE
  cases (ops[j]?).bind (·.dst) with
  | none => rfl
  | some t =>
    simp only [Option.bind_some]
    rw [← ha.2.1 t]
    cases h : a.tmps[t]? with
    | none => simp [h, undef]
    | some v => simp only [Option.bind_some, h, Array.getD_eq_getD_getElem?, Option.getD_some]; cases v <;> rfl
theorem WL.guard_no {ops : Array Oper} {o : Oper} {rest : List Oper} (hd : okD N o.dst = true) (hw : Region.wanted o (yieldE ops ρ) = false) (h : WL P r N ops Q rest (updO ρ o.dst undef) ds w) : WL P r N ops Q (o :: rest) ρ ds w := fun a ha => by
  refine wpListIn_step fun K hK => ?_
  rw [show yielded ops a.tmps = yieldE ops ρ from funext (yielded_eq ha), hw]
  exact ⟨fun _ _ => trivial, hK _ _ (h _ (ha.put hd undef))⟩
theorem WL.guard_yes {ops : Array Oper} {o : Oper} {rest : List Oper} (hd : okD N o.dst = true) (hw : Region.wanted o (yieldE ops ρ) = true)
    (h : St P o ρ w fun v w' => WL P r N ops Q rest (updO ρ o.dst v) ds w') : WL P r N ops Q (o :: rest) ρ ds w := fun a ha => by
  refine wpListIn_step fun K hK => ?_
  rw [show yielded ops a.tmps = yieldE ops ρ from funext (yielded_eq ha), hw]
  exact St.wpIn (by rw [ha.eval]) h fun v w' hn => hK _ _ (hn _ (ha.put hd v))
end
/-- a function's results, at its end -/
def RetM (P : Program) (fn : Func) (R : Value → World → Prop) (ρ : Nat → Value) : List Nat → World → Prop
  | [], w => ∀ tmps : Array Value, (∀ k, tmps.getD k undef = ρ k) → ∃ v, (results fn tmps).run P w = .ok v w ∧ R v w
  | d :: ds, w => w.heap[d]? = some (.deferred (some [])) ∧ RetM P fn R ρ ds (w.putObj d (.deferred none))
def retE (P : Program) (fn : Func) (R : Value → World → Prop) : QE
  | .normal, ρ, ds, w => RetM P fn R ρ ds w
  | .ret, ρ, ds, w => RetM P fn R ρ ds w
  | _, _, _, _ => False
theorem RetM.leaves {P : Program} {fn : Func} {R : Value → World → Prop} {ρ : Nat → Value} {tmps : Array Value} (ht : ∀ k, tmps.getD k undef = ρ k) : ∀ (ds : List Nat) (w : World), RetM P fn R ρ ds w →
    LeavesInM (Fe none) 0 P fn tmps (fun e w' => ∃ v, e = .returned v ∧ R v w') (ds.map mk) .returning w
  | [], w, h => by
    obtain ⟨v, h1, h2⟩ := h tmps ht
    exact ⟨v, h1, v, rfl, h2⟩
  | d :: ds, w, h => ⟨by simp, .inl ⟨d, _, rfl, run_takeDeferred h.1, RetM.leaves ht ds _ h.2⟩⟩
theorem atRet {P : Program} {fn : Func} {R : Value → World → Prop} {ρ : Nat → Value} {ds : List Nat} {w : World} (h : RetM P fn R ρ ds w) : retE P fn R .ret ρ ds w := h
theorem atEnd {P : Program} {fn : Func} {R : Value → World → Prop} {ρ : Nat → Value} {ds : List Nat} {w : World} (h : RetM P fn R ρ ds w) : retE P fn R .normal ρ ds w := h
def ent (args : List Value) : Nat → Value := fun k => args.getD k undef
theorem CC.of {P : Program} {f : FuncId} {fn : Func} {c : Code} {N : Nat} {args : List Value} {w : World} {R : Value → World → Prop}
    (hf : P.funcs[f]? = some fn) (hb : fn.body = some c) (hN : fn.ntmps = N) (ha : Nat.ble args.length N = true)
    (h : WC P none N c (retE P fn R) (ent args) [] w) : CC P f args.toArray w R := by
  have ha := Nat.le_of_ble_eq_true ha
  refine callsIn_of_wp_marks hf hb trivial ?_ rfl
  have hfit : Fits N { tmps := args.toArray ++ Array.replicate (fn.ntmps - args.toArray.size) undef, defers := [] } (ent args) [] := by
    refine ⟨by simp [hN]; omega, fun k => ?_, rfl⟩
    simp only [ent, Array.getD_eq_getD_getElem?, List.getD_eq_getElem?_getD, Array.getElem?_append, List.size_toArray]
    split
    · simp
    · rename_i hk
      rw [List.getElem?_eq_none (by omega)]
      simp only [Array.getElem?_replicate]
      split <;> simp
  refine wpIn_mono (h _ hfit) ?_
  rintro e a w' ⟨ρ, ds, f, q⟩
  cases e with
  | normal => show LeavesInM _ _ _ _ _ _ _ _ _; rw [f.2.2]; exact RetM.leaves f.2.1 ds w' q
  | ret => show LeavesInM _ _ _ _ _ _ _ _ _; rw [f.2.2]; exact RetM.leaves f.2.1 ds w' q
  | exit i => exact q
  | goto i => exact q
  | panic c => exact q.elim
  | outgrown => exact q.elim
end KE
namespace KE
open Go Go.RowKit
/-! ### parts of memory -/
abbrev Hp := (Nat → Option Obj) → Prop
structure Sy where
  os : Os
  tape : Nat → Question → Nat
  output : Array (Nat × ByteArray)
  ex : Option Nat
/-- nothing is held of how often was drawn -/
class NoEx (s : Sy) : Prop where
  none : s.ex = none
def sy (w : World) : Sy := ⟨w.os, w.tape, w.output, none⟩
instance (w : World) : NoEx (sy w) := ⟨rfl⟩
/-- .. and no fewer draws than before -/
def syD (w : World) : Sy := ⟨w.os, w.tape, w.output, some w.drawn⟩
def hsub (h : Nat → Option Obj) (w : World) : Prop := ∀ i o, h i = some o → w.heap[i]? = some o
def hdis (h g : Nat → Option Obj) : Prop := ∀ i, h i = none ∨ g i = none
def hor (h g : Nat → Option Obj) : Nat → Option Obj := fun i => match h i with | some o => some o | none => g i
def star (p q : Hp) : Hp := fun h => ∃ a b, hdis a b ∧ h = hor a b ∧ p a ∧ q b
def sep : List Hp → Hp
  | [] => fun _ => True
  | p :: l => star p (sep l)
def pt (b : Nat) (o : Obj) : Hp := fun h => h b = some o
def fr (w0 : World) : Hp := fun h => ∀ i o, w0.heap[i]? = some o → h i = some o
def Hd (s : Sy) (w : World) (L : List Hp) : Prop := (w.os = s.os ∧ w.tape = s.tape ∧ w.output = s.output ∧ ∀ d, s.ex = some d → d ≤ w.drawn) ∧ ∃ h, hsub h w ∧ sep L h
abbrev Ext (w w' : World) : Prop := Below w.heap.size w w'
theorem Ext.refl (w : World) : Ext w w := Below.refl _ _
theorem Ext.trans {a b c : World} (h : Ext a b) (k : Ext b c) : Ext a c := Below.trans h (k.mono h.size)
theorem hdis.symm {h g : Nat → Option Obj} (k : hdis h g) : hdis g h := fun i => (k i).symm
theorem hor_comm {h g : Nat → Option Obj} (k : hdis h g) : hor h g = hor g h := by
  funext i
  unfold hor
  rcases k i with e | e
  · rw [e]; cases g i <;> rfl
  · rw [e]; cases h i <;> rfl
theorem hor_assoc (a b c : Nat → Option Obj) : hor (hor a b) c = hor a (hor b c) := by
  funext i
  unfold hor
  cases a i <;> simp
theorem hdis_hor_l {a b c : Nat → Option Obj} (h : hdis a (hor b c)) : hdis a b ∧ hdis a c := by
  constructor <;> intro i <;> rcases h i with e | e
  · exact .inl e
  · refine .inr ?_; unfold hor at e; split at e <;> simp_all
  · exact .inl e
  · refine .inr ?_; unfold hor at e; split at e <;> simp_all
theorem hdis_hor {a b c : Nat → Option Obj} (h : hdis a b) (k : hdis a c) : hdis a (hor b c) := fun i => by
  rcases h i with e | e
  · exact .inl e
  · rcases k i with e' | e'
    · exact .inl e'
    · right; simp [hor, e, e']
theorem star_swap {p q r : Hp} {h : Nat → Option Obj} (k : star p (star q r) h) : star q (star p r) h := by
  obtain ⟨a, b, hab, rfl, hp, c, d, hcd, rfl, hq, hr⟩ := k
  obtain ⟨h1, h2⟩ := hdis_hor_l hab
  refine ⟨c, hor a d, hdis_hor h1.symm hcd, ?_, hq, a, d, h2, rfl, hp, hr⟩
  rw [← hor_assoc, hor_comm h1, hor_assoc]
theorem star_mono {p p' q q' : Hp} {h : Nat → Option Obj} (k : star p q h) (h1 : ∀ h, p h → p' h) (h2 : ∀ h, q h → q' h) : star p' q' h := by
  obtain ⟨a, b, x, y, hp, hq⟩ := k
  exact ⟨a, b, x, y, h1 _ hp, h2 _ hq⟩
theorem sep_perm {L L' : List Hp} (hp : L.Perm L') : ∀ h, sep L h → sep L' h := by
  induction hp with
  | nil => exact fun _ h => h
  | cons x _ ih => exact fun h k => star_mono k (fun _ h => h) ih
  | swap x y l => exact fun h k => star_swap k
  | trans _ _ i1 i2 => exact fun h k => i2 _ (i1 _ k)
theorem star_assoc {p q r : Hp} {h : Nat → Option Obj} : star (star p q) r h ↔ star p (star q r) h := by
  constructor
  · rintro ⟨x, c, h1, rfl, ⟨a, b, h2, rfl, hp, hq⟩, hr⟩
    obtain ⟨k1, k2⟩ := hdis_hor_l h1.symm
    exact ⟨a, hor b c, hdis_hor h2 k1.symm, hor_assoc _ _ _, hp, b, c, k2.symm, rfl, hq, hr⟩
  · rintro ⟨a, x, h1, rfl, hp, b, c, h2, rfl, hq, hr⟩
    obtain ⟨k1, k2⟩ := hdis_hor_l h1
    exact ⟨hor a b, c, (hdis_hor k2.symm h2.symm).symm, (hor_assoc _ _ _).symm, ⟨a, b, k1, rfl, hp, hq⟩, hr⟩
theorem sep_append {A B : List Hp} {h : Nat → Option Obj} : sep (A ++ B) h ↔ star (sep A) (sep B) h := by
  induction A generalizing h with
  | nil =>
    constructor
    · intro k; exact ⟨fun _ => none, h, fun _ => .inl rfl, rfl, trivial, k⟩
    · rintro ⟨a, b, hd, rfl, _, k⟩
      -- affine: what is left over goes with any part
      revert k
      have key : ∀ (B : List Hp) (a b : Nat → Option Obj), hdis a b → sep B b → sep B (hor a b) := by
        intro B
        induction B with
        | nil => exact fun _ _ _ _ => trivial
        | cons p l ih =>
          rintro a b hd ⟨c, d, h1, rfl, hp, hl⟩
          obtain ⟨k1, k2⟩ := hdis_hor_l hd
          refine ⟨c, hor a d, hdis_hor k1.symm h1, ?_, hp, ih a d k2 hl⟩
          rw [← hor_assoc, hor_comm k1, hor_assoc]
      exact key B a b hd
  | cons p l ih =>
    show star p (sep (l ++ B)) h ↔ star (star p (sep l)) (sep B) h
    rw [star_assoc]
    constructor
    · exact fun k => star_mono k (fun _ h => h) (fun _ h => ih.1 h)
    · exact fun k => star_mono k (fun _ h => h) (fun _ h => ih.2 h)
theorem sep_drop {p : Hp} {L : List Hp} {h : Nat → Option Obj} (k : sep (p :: L) h) : sep L h := by
  have : sep ([] ++ L) h := sep_append.2 (star_mono k (fun _ _ => trivial) (fun _ h => h))
  exact this
section
variable {s : Sy} {w w' : World} {L : List Hp} {p q : Hp}
theorem Hd.perm (H : Hd s w L) {L' : List Hp} (h : L.Perm L') : Hd s w L' := ⟨H.1, H.2.imp fun _ k => ⟨k.1, sep_perm h _ k.2⟩⟩
theorem perm_pick {α : Type} {l : List α} : ∀ {i : Nat} {x : α}, l[i]? = some x → l.Perm (x :: l.eraseIdx i) := by
  induction l with
  | nil => intro i x h; simp at h
  | cons a l ih =>
    intro i x h
    cases i with
    | zero => simp at h; subst h; exact List.Perm.refl _
    | succ i => simp at h; exact (List.Perm.cons a (ih h)).trans (List.Perm.swap _ _ _)
theorem Hd.pick (H : Hd s w L) (i : Nat) (hi : L[i]? = some p) : Hd s w (p :: L.eraseIdx i) := H.perm (perm_pick hi)
theorem Hd.drop (H : Hd s w (p :: L)) : Hd s w L := ⟨H.1, H.2.imp fun _ k => ⟨k.1, sep_drop k.2⟩⟩
theorem Hd.weak (H : Hd s w (p :: L)) (h : ∀ x, p x → q x) : Hd s w (q :: L) := ⟨H.1, H.2.imp fun _ k => ⟨k.1, star_mono k.2 h (fun _ h => h)⟩⟩
theorem Hd.unstar (H : Hd s w (star p q :: L)) : Hd s w (p :: q :: L) := ⟨H.1, H.2.imp fun _ k => ⟨k.1, star_assoc.1 k.2⟩⟩
theorem Hd.star (H : Hd s w (p :: q :: L)) : Hd s w (star p q :: L) := ⟨H.1, H.2.imp fun _ k => ⟨k.1, star_assoc.2 k.2⟩⟩
theorem Hd.unsep {A : List Hp} (H : Hd s w (sep A :: L)) : Hd s w (A ++ L) := ⟨H.1, H.2.imp fun _ k => ⟨k.1, sep_append.2 k.2⟩⟩
theorem Hd.sep {A : List Hp} (H : Hd s w (A ++ L)) : Hd s w (sep A :: L) := ⟨H.1, H.2.imp fun _ k => ⟨k.1, sep_append.1 k.2⟩⟩
theorem Hd.unex {α : Type} {p : α → Hp} (H : Hd s w ((fun h => ∃ x, p x h) :: L)) : ∃ x, Hd s w (p x :: L) := by
  obtain ⟨h0, h, hs, a, b, h1, h2, ⟨x, hx⟩, h4⟩ := H
  exact ⟨x, h0, h, hs, a, b, h1, h2, hx, h4⟩
theorem Hd.unand {φ : Prop} (H : Hd s w ((fun h => φ ∧ p h) :: L)) : φ ∧ Hd s w (p :: L) := by
  obtain ⟨h0, h, hs, a, b, h1, h2, ⟨x, hx⟩, h4⟩ := H
  exact ⟨x, h0, h, hs, a, b, h1, h2, hx, h4⟩
theorem Hd.fact (H : Hd s w (p :: L)) : ∃ h, hsub h w ∧ p h := by
  obtain ⟨h0, h, hs, a, b, h1, h2, h3, h4⟩ := H
  exact ⟨a, fun i o hi => hs i o (by rw [h2]; simp [hor, hi]), h3⟩
theorem Hd.fact_at (H : Hd s w L) (i : Nat) (hi : L[i]? = some p) : ∃ h, hsub h w ∧ p h := (H.pick i hi).fact
theorem Hd.obj (H : Hd s w L) {b : Nat} {o : Obj} (i : Nat) (hi : L[i]? = some (pt b o)) : w.heap[b]? = some o := by
  obtain ⟨h, h1, h2⟩ := H.fact_at i hi
  exact h1 _ _ h2
theorem cell_of {w : World} {b off : Nat} {cs : Array Value} {t : TypeId} {f : Nat × Nat} {v : Value} (h : w.heap[b]? = some (.cells cs t f)) (hc : cs[off]? = some v) : w.cell? ⟨b, off, none⟩ = some v := by
  simp [World.cell?, h, hc]
theorem free_of {w : World} {b off : Nat} {cs : Array Value} {t : TypeId} (h : w.heap[b]? = some (.cells cs t (0, 0))) : w.frozen? ⟨b, off, none⟩ = false := by
  simp [World.frozen?, h]
theorem Hd.cell (H : Hd s w L) {b off : Nat} {cs : Array Value} {t : TypeId} {f : Nat × Nat} {v : Value} (i : Nat) (hi : L[i]? = some (pt b (.cells cs t f))) (hc : cs[off]? = some v) : w.cell? ⟨b, off, none⟩ = some v :=
  cell_of (H.obj i hi) hc
theorem cell_ofL {w : World} {b off : Nat} {cs : Array Value} {t : TypeId} {f : Nat × Nat} {v : Value} (h : w.heap[b]? = some (.cells cs t f)) (hc : cs.toList[off]? = some v) : w.cell? ⟨b, off, none⟩ = some v := cell_of h (by simpa using hc)
theorem Hd.cellL (H : Hd s w L) {b off : Nat} {cs : Array Value} {t : TypeId} {f : Nat × Nat} {v : Value} (i : Nat) (hi : L[i]? = some (pt b (.cells cs t f))) (hc : cs.toList[off]? = some v) : w.cell? ⟨b, off, none⟩ = some v :=
  cell_ofL (H.obj i hi) hc
theorem Hd.ext [hx : NoEx s] (H : Hd s w L) (e : Ext w w') : Hd s w' L := by
  obtain ⟨⟨h1, h2, h3, _⟩, h, hs, hL⟩ := H
  refine ⟨⟨e.os.trans h1, e.tape.trans h2, e.output.trans h3, fun d hd => (by rw [hx.none] at hd; cases hd)⟩, h, fun i o hi => ?_, hL⟩
  have := hs i o hi
  rw [e.block i (Array.getElem?_eq_some_iff.1 this).1]; exact this
theorem Hd.drew (H : Hd s w L) : Hd s w.drew L := ⟨⟨H.1.1, H.1.2.1, H.1.2.2.1, fun d hd => Nat.le_succ_of_le (H.1.2.2.2 d hd)⟩, H.2⟩
theorem Hd.drawnUp (H : Hd s w L) {w' : World} (e : w'.heap = w.heap) (h1 : w'.os = w.os) (h2 : w'.tape = w.tape) (h3 : w'.output = w.output) (hd : w.drawn ≤ w'.drawn) : Hd s w' L :=
  ⟨⟨h1.trans H.1.1, h2.trans H.1.2.1, h3.trans H.1.2.2.1, fun d hx => Nat.le_trans (H.1.2.2.2 d hx) hd⟩, H.2.imp fun h k => ⟨fun i o hi => (congrArg (·[i]?) e).trans (k.1 i o hi), k.2⟩⟩
theorem Ext.alloc (w : World) (o : Obj) : Ext w (w.alloc o) := (Below.refl _ w).alloc (Nat.le_refl _) o
theorem Hd.alloc (H : Hd s w L) (o : Obj) : Hd s (w.alloc o) (pt w.heap.size o :: L) := by
  obtain ⟨h0, h, hs, hL⟩ := H
  have hlt : ∀ i o, h i = some o → i < w.heap.size := fun i o hi => (Array.getElem?_eq_some_iff.1 (hs i o hi)).1
  refine ⟨h0, hor (fun i => if i = w.heap.size then some o else none) h, ?_, _, h, ?_, rfl, ?_, hL⟩
  · intro i o' hi
    by_cases e : i = w.heap.size
    · subst e
      simp [hor] at hi
      subst hi
      show (w.heap.push o)[w.heap.size]? = some o
      simp
    · simp [hor, e] at hi
      have := hlt i o' hi
      show (w.heap.push o)[i]? = some o'
      rw [Array.getElem?_push, if_neg e]
      exact hs i o' hi
  · intro i
    by_cases e : i = w.heap.size
    · right
      cases hh : h i with
      | none => rfl
      | some o' => have := hlt i o' hh; omega
    · left; simp [e]
  · simp [pt]
/-- a block that is new -/
theorem Hd.fresh [hx : NoEx s] (H : Hd s w L) (e : Ext w w') {b : Nat} {o : Obj} (hb : w.heap.size ≤ b) (ho : w'.heap[b]? = some o) : Hd s w' (pt b o :: L) := by
  obtain ⟨h0, h, hs, hL⟩ := H
  have hlt : ∀ i o, h i = some o → i < w.heap.size := fun i o hi => (Array.getElem?_eq_some_iff.1 (hs i o hi)).1
  refine ⟨⟨e.os.trans h0.1, e.tape.trans h0.2.1, e.output.trans h0.2.2.1, fun d hd => (by rw [hx.none] at hd; cases hd)⟩, hor (fun i => if i = b then some o else none) h, ?_, _, h, ?_, rfl, ?_, hL⟩
  · intro i o' hi
    by_cases e1 : i = b
    · subst e1; simp [hor] at hi; subst hi; exact ho
    · simp [hor, e1] at hi
      rw [e.block i (hlt i o' hi)]; exact hs i o' hi
  · intro i
    by_cases e1 : i = b
    · right
      cases hh : h i with
      | none => rfl
      | some o' => have := hlt i o' hh; omega
    · left; simp [e1]
  · simp [pt]
theorem Hd.newObj (H : Hd s w L) (o : Obj) : ∃ b, b = w.heap.size ∧ Hd s (w.alloc o) (pt b o :: L) := ⟨_, rfl, H.alloc o⟩
theorem eraseIdx_set_perm {α : Type} {l : List α} : ∀ {i : Nat} {x : α} (y : α), l[i]? = some x → (y :: l.eraseIdx i).Perm (l.set i y) := by
  induction l with
  | nil => intro i x y h; simp at h
  | cons a l ih =>
    intro i x y h
    cases i with
    | zero => exact List.Perm.refl _
    | succ i => simp at h; exact (List.Perm.swap _ _ _).trans (List.Perm.cons a (ih y h))
/-- one object of ours becomes another -/
theorem Hd.change (H : Hd s w L) {b : Nat} {o : Obj} (i : Nat) (hi : L[i]? = some (pt b o)) {o' : Obj} (h1 : w'.heap[b]? = some o') (h2 : ∀ k, k ≠ b → w'.heap[k]? = w.heap[k]?)
    (h3 : w'.os = w.os ∧ w'.tape = w.tape ∧ w'.output = w.output ∧ w'.drawn = w.drawn) : Hd s w' (L.set i (pt b o')) := by
  refine Hd.perm ?_ (eraseIdx_set_perm (pt b o') hi)
  obtain ⟨⟨e1, e2, e3, e4⟩, h, hs, a, c, hd, rfl, ha, hc⟩ := H.pick i hi
  refine ⟨⟨h3.1.trans e1, h3.2.1.trans e2, h3.2.2.1.trans e3, fun d hd => h3.2.2.2 ▸ e4 d hd⟩, hor (fun k => if k = b then some o' else none) c, ?_, _, c, ?_, rfl, by simp [pt], hc⟩
  · intro k x hk
    by_cases e : k = b
    · subst e; simp [hor] at hk; subst hk; exact h1
    · simp [hor, e] at hk
      rw [h2 k e]
      refine hs k x ?_
      rcases hd k with e' | e'
      · simp [hor, e', hk]
      · rw [e'] at hk; cases hk
  · intro k
    by_cases e : k = b
    · subst e
      rcases hd k with e' | e'
      · rw [show a k = some o from ha] at e'; cases e'
      · exact .inr e'
    · left; simp [e]
theorem Hd.putObj (H : Hd s w L) {b : Nat} {o : Obj} (i : Nat) (hi : L[i]? = some (pt b o)) (o' : Obj) : Hd s (w.putObj b o') (L.set i (pt b o')) :=
  H.change i hi (World.putObj_heap_same (Array.getElem?_eq_some_iff.1 (H.obj i hi)).1) (fun k hk => World.putObj_heap_other hk) ⟨rfl, rfl, rfl, rfl⟩
theorem Hd.setCell (H : Hd s w L) {b off : Nat} {cs : Array Value} {t : TypeId} {f : Nat × Nat} (i : Nat) (hi : L[i]? = some (pt b (.cells cs t f))) (v : Value) :
    Hd s (w.setCell ⟨b, off, none⟩ v) (L.set i (pt b (.cells (cs.setIfInBounds off v) t f))) := by
  have hb := H.obj i hi
  refine H.change i hi ?_ (fun k hk => Below.heap_setCell _ _ _ _ hk) ⟨rfl, rfl, rfl, rfl⟩
  obtain ⟨hlt, hk⟩ := Array.getElem?_eq_some_iff.1 hb
  show (w.heap.modify b _)[b]? = _
  rw [Array.getElem?_eq_getElem (by rw [Array.size_modify]; exact hlt), Array.getElem_modify_self, hk]
  rfl
theorem Hd.ne (H : Hd s w (p :: q :: L)) {b b' : Nat} {o o' : Obj} (h1 : ∀ h, p h → h b = some o) (h2 : ∀ h, q h → h b' = some o') : b ≠ b' := by
  obtain ⟨_, h, _, a, c, hd, rfl, ha, d, e, hde, rfl, hq, _⟩ := H
  rintro rfl
  rcases hd b with x | x
  · rw [h1 _ ha] at x; cases x
  · simp [hor, h2 _ hq] at x
theorem Hd.frozen (H : Hd s w L) {w0 : World} (i : Nat) (hi : L[i]? = some (fr w0)) : (∀ (k : Nat) (o : Obj), w0.heap[k]? = some o → w.heap[k]? = some o) := by
  obtain ⟨h, h1, h2⟩ := H.fact_at i hi
  exact fun k o hk => h1 _ _ (h2 k o hk)
theorem Hd.below {w0 : World} (H : Hd (sy w0) w L) (i : Nat) (hi : L[i]? = some (fr w0)) : Ext w0 w := by
  have hf := H.frozen i hi
  refine ⟨H.1.1, H.1.2.1, H.1.2.2.1, ?_, fun k hk => ?_⟩
  · rcases Nat.eq_zero_or_pos w0.heap.size with h0 | h0
    · omega
    · have := hf (w0.heap.size - 1) _ (Array.getElem?_eq_getElem (by omega))
      have := (Array.getElem?_eq_some_iff.1 this).1
      omega
  · rw [Array.getElem?_eq_getElem hk]
    exact hf k _ (Array.getElem?_eq_getElem hk)
theorem Hd.start (w : World) : Hd (sy w) w [fr w] := by
  refine ⟨⟨rfl, rfl, rfl, fun d hd => (by cases hd)⟩, fun i => w.heap[i]?, fun _ _ h => h, fun i => w.heap[i]?, fun _ => none, fun _ => .inr rfl, ?_, fun _ _ h => h, trivial⟩
  funext i; unfold hor; split <;> simp_all
theorem Hd.arr_head3 {a b c : Hp} (H : Hd s w (a :: b :: c :: L)) : Hd s w (b :: c :: a :: L) := H.perm ((List.Perm.swap b a _).trans ((List.Perm.swap c a L).cons b))
theorem Hd.arr_tail3 {a b c d : Hp} (H : Hd s w (a :: b :: c :: d :: L)) : Hd s w (a :: c :: d :: b :: L) := H.perm (((List.Perm.swap c b (d :: L)).trans ((List.Perm.swap d b L).cons c)).cons a)
theorem Hd.arr_tail3' {a b c : Hp} (H : Hd s w (a :: b :: c :: L)) : Hd s w (c :: a :: b :: L) := H.perm (((List.Perm.swap c b L).cons a).trans (List.Perm.swap c a (b :: L)))
/-- the entries in another order, some let go -/
theorem Hd.arr (H : Hd s w L) (ix : List Nat) (hn : ix.Nodup) (hl : ∀ i ∈ ix, i < L.length) : Hd s w (ix.map fun i => L.getD i (fun _ => True)) := by
  have key : ∀ (ix : List Nat), ix.Nodup → (∀ i ∈ ix, i < L.length) → ∃ R, L.Perm ((ix.map fun i => L.getD i (fun _ => True)) ++ R) := by
    intro ix hn hl
    have h1 : (ix ++ (List.range L.length).filter (fun i => !ix.contains i)).Perm (List.range L.length) := by
      apply (List.perm_ext_iff_of_nodup ?_ List.nodup_range).2
      · intro a
        simp only [List.mem_append, List.mem_filter, List.mem_range]
        constructor
        · rintro (h | h)
          · exact hl a h
          · exact h.1
        · intro h
          by_cases ha : a ∈ ix
          · exact .inl ha
          · exact .inr ⟨h, by simpa using ha⟩
      · refine List.nodup_append.2 ⟨hn, List.Pairwise.filter _ List.nodup_range, ?_⟩
        intro a ha b hb e
        subst e
        simp at hb
        exact hb.2 ha
    have h2 := h1.map (fun i => L.getD i (fun _ => True))
    rw [List.map_append] at h2
    refine ⟨((List.range L.length).filter (fun i => !ix.contains i)).map (fun i => L.getD i (fun _ => True)), ?_⟩
    · refine List.Perm.trans ?_ h2.symm
      have : (List.range L.length).map (fun i => L.getD i (fun _ => True)) = L := by
        apply List.ext_getElem
        · simp
        · intro i h1 h2; simp [List.getElem?_eq_getElem (show i < L.length by simpa using h2)]
      rw [this]
  obtain ⟨R, hR⟩ := key ix hn hl
  have H2 := (H.perm hR)
  have H3 : Hd s w (R ++ (ix.map fun i => L.getD i (fun _ => True))) := H2.perm List.perm_append_comm
  clear H2 hR
  induction R with
  | nil => exact H3
  | cons p R ih => exact ih H3.drop
end
/-! ### a region that draws its order: walked in ONE order (reads as early as they can be) -/
def plainOp (o : Oper) : Bool := match o.op with | .defer _ => false | .select _ _ => false | _ => true
/-- a reading: the value, the world unturned -/
def RS (P : Program) (ops : Array Oper) (o : Oper) (ρ : Nat → Value) (w : World) (v : Value) : Prop :=
  plainOp o = true ∧ ((Region.wanted o (yieldE ops ρ) = true ∧ (execOp (ev ρ) o).run P w = .ok (.value v) w) ∨ (Region.wanted o (yieldE ops ρ) = false ∧ v = undef))
def RSk (P : Program) (ops : Array Oper) (k : Nat) (ρ : Nat → Value) (w : World) : Prop :=
  match ops[k]? with
  | some o => (match o.dst with | some d => RS P ops o ρ w (ρ d) | none => False)
  | none => False
def Stab (P : Program) (ops : Array Oper) (bf : List Nat) : List Nat → (Nat → Value) → World → Prop
  | [], _, _ => True
  | k :: t, ρ, w => (bif bf.contains k then True else RSk P ops k ρ w) ∧ Stab P ops bf t ρ w
def WK (P : Program) (r : Option Nat) (N : Nat) (ops : Array Oper) (eff : List Nat) (bef : List (List Nat)) (Q : QE) : List Nat → List Nat → (Nat → Value) → List Nat → World → Prop
  | [], _, ρ, ds, w => Q .normal ρ ds w
  | i :: rest, pend, ρ, ds, w =>
    match ops[i]? with
    | none => False
    | some o =>
      bif eff.contains i then
        (Region.wanted o (yieldE ops ρ) = true ∧ St P o ρ w fun v w' => Stab P ops (bef.getD i []) pend (updO ρ o.dst v) w' ∧ WK P r N ops eff bef Q rest pend (updO ρ o.dst v) ds w') ∨
        (Region.wanted o (yieldE ops ρ) = false ∧ Stab P ops (bef.getD i []) pend (updO ρ o.dst undef) w ∧ WK P r N ops eff bef Q rest pend (updO ρ o.dst undef) ds w)
      else ∃ v, RS P ops o ρ w v ∧ WK P r N ops eff bef Q rest (i :: pend) (updO ρ o.dst v) ds w
/-! what is asked of the order: all of it decided on the text -/
def befOk (ops : Array Oper) (bef : List (List Nat)) : Bool :=
  (List.range ops.size).all fun i => ((bef.getD i []).all fun k => match ops[i]? with
    | some o => o.after.toList.any fun e => Region.binds .any e && (e.on == k || (bef.getD e.on []).contains k)
    | none => false)
def downOk (ops : Array Oper) : Bool :=
  (List.range ops.size).all fun i => match ops[i]? with
    | some o => o.after.toList.all fun e => !Region.binds .any e || Nat.blt e.on i
    | none => false
def looks (ops : Array Oper) (i : Nat) : List Nat := match ops[i]? with | some o => o.looksAt ops | none => []
def dstOf (ops : Array Oper) (i : Nat) : Option Nat := (ops[i]?).bind (·.dst)
def topoOk (eff : List Nat) (bef : List (List Nat)) : List Nat → List Nat → Bool
  | _, [] => true
  | done, i :: rest => ((bef.getD i []).all fun k => done.contains k) && (!eff.contains i || rest.all fun q => (bef.getD q []).contains i) && topoOk eff bef (i :: done) rest
def topoA (bef : List (List Nat)) : List Nat → List Nat → Bool
  | _, [] => true
  | done, i :: rest => ((bef.getD i []).all fun k => done.contains k) && topoA bef (i :: done) rest
def headOk (eff : List Nat) (bef : List (List Nat)) : List Nat → Bool
  | [] => true
  | i :: rest => (!eff.contains i || rest.all fun q => (bef.getD q []).contains i) && headOk eff bef rest
theorem topo_A {eff : List Nat} {bef : List (List Nat)} : ∀ {can done : List Nat}, topoOk eff bef done can = true → topoA bef done can = true ∧ headOk eff bef can = true
  | [], _, _ => ⟨rfl, rfl⟩
  | i :: rest, done, h => by
    simp only [topoOk, Bool.and_eq_true] at h
    obtain ⟨h1, h2⟩ := topo_A h.2
    simp only [topoA, headOk, Bool.and_eq_true]
    exact ⟨⟨h.1.1, h1⟩, h.1.2, h2⟩
theorem head_app {eff : List Nat} {bef : List (List Nat)} : ∀ {p can : List Nat}, headOk eff bef (p ++ can) = true → headOk eff bef can = true
  | [], _, h => h
  | i :: p, can, h => by
    simp only [List.cons_append, headOk, Bool.and_eq_true] at h
    exact head_app h.2
def namesOk (N : Nat) (ops : Array Oper) (eff : List Nat) (bef : List (List Nat)) : Bool :=
  (List.range ops.size).all fun j => okD N (dstOf ops j) && (match ops[j]? with | some o => plainOp o | none => false) && (match dstOf ops j with
    | none => eff.contains j
    | some d => bif eff.contains j then
        (List.range ops.size).all fun i => i == j || ((!(looks ops i).contains d || (bef.getD i []).contains j || (bef.getD j []).contains i) && (dstOf ops i != some d || (bef.getD i []).contains j || (bef.getD j []).contains i))
      else (List.range ops.size).all fun i => (!(looks ops i).contains d || (i != j && (bef.getD i []).contains j)) && (i == j || dstOf ops i != some d))
def canOk (N : Nat) (ops : Array Oper) (eff : List Nat) (bef : List (List Nat)) (can : List Nat) : Bool :=
  befOk ops bef && downOk ops && topoOk eff bef [] can && namesOk N ops eff bef && can.length == ops.size && decide can.Nodup && (can.all fun i => Nat.blt i ops.size) && (List.range ops.size).all fun i => can.contains i
section
variable {P : Program} {r : Option Nat} {N : Nat} {ops : Array Oper} {eff : List Nat} {bef : List (List Nat)} {Q : QE}
theorem blt_lt {a b : Nat} (h : Nat.blt a b = true) : a < b := by
  have : a + 1 ≤ b := by simpa [Nat.blt] using h
  exact this
theorem ev_congr {ρ ρ' : Nat → Value} {o : Oper} (hp : plainOp o = true) (h : ∀ t ∈ o.looksAt ops, ρ t = ρ' t) : execOp (ev ρ) o = execOp (ev ρ') o := by
  refine execOp_congr o (fun cs b e => by rw [plainOp, e] at hp; cases hp) fun x hx => ?_
  cases x with
  | tmp t => exact h t (List.mem_append_left _ (List.mem_filterMap.2 ⟨.tmp t, by simpa using hx, rfl⟩))
  | const v => rfl
  | global g => rfl
  | func f => rfl
theorem wanted_congr {ρ ρ' : Nat → Value} {o : Oper} (h : ∀ t ∈ o.looksAt ops, ρ t = ρ' t) : Region.wanted o (yieldE ops ρ) = Region.wanted o (yieldE ops ρ') := by
  unfold Region.wanted
  cases hg : o.guard with
  | none => rfl
  | some gw =>
    obtain ⟨g, want⟩ := gw
    have hy : yieldE ops ρ g = yieldE ops ρ' g := by
      unfold yieldE
      cases ht : (ops[g]?).bind (·.dst) with
      | none => rfl
      | some t =>
        have := h t (List.mem_append_right _ (by simp [hg, ht]))
        simp only [this]
    simp only [hy]
theorem RS.congr {ρ ρ' : Nat → Value} {o : Oper} {w : World} {v : Value} (hs : RS P ops o ρ w v) (h : ∀ t ∈ o.looksAt ops, ρ t = ρ' t) : RS P ops o ρ' w v := by
  refine ⟨hs.1, ?_⟩
  rw [← wanted_congr h, ← ev_congr (ops := ops) hs.1 h]
  exact hs.2
theorem updO_other {ρ : Nat → Value} {d : Option Nat} {v : Value} {t : Nat} (h : d ≠ some t) : updO ρ d v t = ρ t := by
  cases d with
  | none => rfl
  | some d =>
    have : Nat.beq t d = false := beq_ne (fun e => h (by rw [e]))
    simp [updO, upd, this]
theorem updO_same {ρ : Nat → Value} {t : Nat} {v : Value} : updO ρ (some t) v t = v := by simp [updO, upd, beq_self]
/-- what holds between the order walked and the order taken -/
structure Inv (P : Program) (N : Nat) (ops : Array Oper) (eff : List Nat) (bef : List (List Nat)) (listed : Array Bool) (late can done : List Nat) (ρ : Nat → Value) (ds : List Nat) (a : Act) (w : World) : Prop where
  size : listed.size = ops.size
  free : ∀ i, i < ops.size → (listed.getD i true = false ↔ (i ∈ late ∨ i ∈ can))
  closed : ∀ i, i < ops.size → listed.getD i true = true → ∀ k ∈ bef.getD i [], listed.getD k false = true
  lateN : late.Nodup
  lateD : ∀ i ∈ late, i ∈ done
  lateC : ∀ i ∈ late, i ∉ can
  ltD : ∀ i ∈ done, i < ops.size
  ltC : ∀ i ∈ can, i < ops.size
  topo : topoA bef done can = true
  doneB : ∀ i ∈ done, ∀ k ∈ bef.getD i [], k ∈ done
  doneC : ∀ i ∈ done, i ∉ can
  canN : can.Nodup
  tsize : a.tmps.size = N
  tds : a.defers = ds.map mk
  agree : ∀ k, (∀ j ∈ late, dstOf ops j ≠ some k) → a.tmps.getD k undef = ρ k
  reads : ∀ j ∈ late, eff.contains j = false ∧ RSk P ops j ρ w
theorem getD_set {l : Array Bool} {i k : Nat} {b : Bool} (hk : k < l.size) : (l.setIfInBounds i true).getD k b = if k = i then true else l.getD k b := by
  simp only [Array.getD_eq_getD_getElem?, Array.getElem?_setIfInBounds]
  by_cases e : i = k
  · subst e; simp [hk]
  · simp [e, Ne.symm e]
theorem getD_def {l : Array Bool} {k : Nat} (hk : k < l.size) : l.getD k true = l.getD k false := by
  simp [Array.getD_eq_getD_getElem?, Array.getElem?_eq_getElem hk]
theorem names_of (h : namesOk N ops eff bef = true) {j : Nat} (hj : j < ops.size) : okD N (dstOf ops j) = true ∧ (∀ o, ops[j]? = some o → plainOp o = true) ∧
    (eff.contains j = false → ∃ d, dstOf ops j = some d ∧ ∀ i, i < ops.size → ((d ∈ looks ops i → i ≠ j ∧ j ∈ bef.getD i []) ∧ (i ≠ j → dstOf ops i ≠ some d))) ∧
    (eff.contains j = true → ∀ d, dstOf ops j = some d → ∀ i, i < ops.size → i ≠ j → ((d ∈ looks ops i → j ∈ bef.getD i [] ∨ i ∈ bef.getD j []) ∧ (dstOf ops i = some d → j ∈ bef.getD i [] ∨ i ∈ bef.getD j []))) := by
  have h1 := List.all_eq_true.1 h j (List.mem_range.2 hj)
  simp only [Bool.and_eq_true] at h1
  obtain ⟨⟨h1, h2⟩, h3⟩ := h1
  refine ⟨h1, fun o ho => by rw [ho] at h2; exact h2, fun he => ?_, fun he d hd => ?_⟩
  · cases hd : dstOf ops j with
    | none => rw [hd] at h3; simp only at h3; rw [he] at h3; cases h3
    | some d =>
      refine ⟨d, rfl, fun i hi => ?_⟩
      rw [hd] at h3
      simp only [he, cond_false] at h3
      have := List.all_eq_true.1 h3 i (List.mem_range.2 hi)
      simp only [Bool.and_eq_true, Bool.or_eq_true, Bool.not_eq_true', bne_iff_ne, ne_eq, beq_iff_eq, List.contains_iff_mem, decide_eq_true_eq] at this
      refine ⟨fun hl => ?_, fun hne => this.2.resolve_left hne⟩
      rcases this.1 with h4 | h4
      · rw [← Bool.not_eq_true, List.contains_iff_mem] at h4; exact absurd hl h4
      · exact h4
  · intro i hi hne
    rw [hd] at h3
    simp only [he, cond_true] at h3
    have := (List.all_eq_true.1 h3 i (List.mem_range.2 hi))
    simp only [Bool.and_eq_true, Bool.or_eq_true, Bool.not_eq_true', bne_iff_ne, ne_eq, beq_iff_eq, List.contains_iff_mem] at this
    have := this.resolve_left hne
    refine ⟨fun hl => ?_, fun hl => ?_⟩
    · rcases this.1 with (h4 | h4) | h4
      · rw [← Bool.not_eq_true, List.contains_iff_mem] at h4; exact absurd hl h4
      · exact .inl h4
      · exact .inr h4
    · rcases this.2 with (h4 | h4) | h4
      · exact absurd hl h4
      · exact .inl h4
      · exact .inr h4
theorem bef_edges (hb : befOk ops bef = true) {i k : Nat} (hi : i < ops.size) (hk : k ∈ bef.getD i []) : ∃ o e, ops[i]? = some o ∧ e ∈ o.after.toList ∧ Region.binds .any e = true ∧ (e.on = k ∨ k ∈ bef.getD e.on []) := by
  have h1 := List.all_eq_true.1 (List.all_eq_true.1 hb i (List.mem_range.2 hi)) k hk
  revert h1
  cases ho : ops[i]? with
  | none => intro h1; cases h1
  | some o =>
    intro h1
    obtain ⟨e, he, h2⟩ := List.any_eq_true.1 h1
    simp only [Bool.and_eq_true, Bool.or_eq_true, beq_iff_eq, List.contains_iff_mem] at h2
    exact ⟨o, e, rfl, he, h2.1, h2.2⟩
theorem mem_ready {listed : Array Bool} {i : Nat} (h : i ∈ Region.ready .any ops listed) : i < ops.size ∧ listed.getD i true = false ∧ ∃ o, ops[i]? = some o ∧ ∀ e ∈ o.after.toList, Region.binds .any e = true → listed.getD e.on false = true := by
  unfold Region.ready at h
  obtain ⟨h1, h2⟩ := List.mem_filter.1 h
  have hlt := List.mem_range.1 h1
  simp only [Bool.and_eq_true, Bool.not_eq_true'] at h2
  refine ⟨hlt, h2.1, ops[i], Array.getElem?_eq_getElem hlt, fun e he hb => ?_⟩
  have h3 := h2.2
  rw [Array.getElem?_eq_getElem hlt] at h3
  simp only [Option.map_some, Option.getD_some, Array.all_eq_true_iff_forall_mem] at h3
  have := h3 e (by simpa using he)
  simpa [hb] using this
theorem ready_of {listed : Array Bool} {i : Nat} (hlt : i < ops.size) (hf : listed.getD i true = false) (h : ∀ o, ops[i]? = some o → ∀ e ∈ o.after.toList, Region.binds .any e = true → listed.getD e.on false = true) : i ∈ Region.ready .any ops listed := by
  unfold Region.ready
  refine List.mem_filter.2 ⟨List.mem_range.2 hlt, ?_⟩
  simp only [Bool.and_eq_true, Bool.not_eq_true']
  refine ⟨hf, ?_⟩
  rw [Array.getElem?_eq_getElem hlt]
  simp only [Option.map_some, Option.getD_some, Array.all_eq_true_iff_forall_mem]
  intro e he
  cases hb : Region.binds .any e with
  | false => rfl
  | true => simpa using h _ (Array.getElem?_eq_getElem hlt) e (by simpa using he) hb
theorem Inv.look {listed : Array Bool} {late can done : List Nat} {ρ : Nat → Value} {ds : List Nat} {a : Act} {w : World} (I : Inv P N ops eff bef listed late can done ρ ds a w) (hn : namesOk N ops eff bef = true)
    {i : Nat} (hlt : i < ops.size) (hr : ∀ k ∈ bef.getD i [], listed.getD k false = true) : ∀ t ∈ looks ops i, a.tmps.getD t undef = ρ t := by
  intro t ht
  refine I.agree t fun j hj hd => ?_
  have hjd := I.ltD j (I.lateD j hj)
  obtain ⟨d, hd2, h3⟩ := (names_of hn hjd).2.2.1 (I.reads j hj).1
  rw [hd2] at hd
  cases hd
  have := ((h3 i hlt).1 ht).2
  have hl := hr j this
  have := (I.free j hjd).2 (.inl hj)
  rw [getD_def (by rw [I.size]; exact hjd), hl] at this
  cases this
theorem ready_bef (hb : befOk ops bef = true) {listed : Array Bool} (hs : listed.size = ops.size) (hcl : ∀ i, i < ops.size → listed.getD i true = true → ∀ k ∈ bef.getD i [], listed.getD k false = true)
    {i : Nat} (h : i ∈ Region.ready .any ops listed) : ∀ k ∈ bef.getD i [], listed.getD k false = true := by
  intro k hk
  obtain ⟨hlt, hf, o, ho, he⟩ := mem_ready h
  obtain ⟨o', e, ho', hm, hbd, hor⟩ := bef_edges hb hlt hk
  rw [ho] at ho'; cases ho'
  have hl := he e hm hbd
  rcases hor with rfl | h2
  · exact hl
  · have hlt2 : e.on < listed.size := by
      rcases Nat.lt_or_ge e.on listed.size with h | h
      · exact h
      · simp [Array.getD_eq_getD_getElem?, Array.getElem?_eq_none h] at hl
    exact hcl e.on (by omega) (by rw [getD_def hlt2]; exact hl) k h2
theorem Inv.adv {listed : Array Bool} {i : Nat} (hn : namesOk N ops eff bef = true) (hr : ∀ k ∈ bef.getD i [], listed.getD k false = true) :
    ∀ (can late done pend : List Nat) (ρ : Nat → Value) (ds : List Nat) (a : Act) (w : World), Inv P N ops eff bef listed late can done ρ ds a w → WK P r N ops eff bef Q can pend ρ ds w → (∀ k ∈ late, k ∈ pend) → i ∈ can →
      ∃ late' can' done' pend' ρ', Inv P N ops eff bef listed late' can' done' ρ' ds a w ∧ WK P r N ops eff bef Q can' pend' ρ' ds w ∧ (∀ k ∈ late', k ∈ pend') ∧ late'.length + can'.length = late.length + can.length ∧
        ((i ∈ late' ∨ ∃ rest, can' = i :: rest ∧ eff.contains i = true) ∨ ∃ j rest, can' = j :: rest ∧ eff.contains j = true ∧ j ≠ i ∧ i ∈ rest) ∧ ∃ p, can = p ++ can' ∧ ∀ q ∈ p, eff.contains q = false := by
  intro can
  induction can with
  | nil => intro late done pend ρ ds a w _ _ _ hi; cases hi
  | cons j rest ih =>
    intro late done pend ρ ds a w I hk hp hi
    have hjlt := I.ltC j List.mem_cons_self
    have ht := I.topo
    simp only [topoA, Bool.and_eq_true] at ht
    obtain ⟨ht1, ht3⟩ := ht
    cases he : eff.contains j with
    | true =>
      rcases List.mem_cons.1 hi with rfl | hir
      · exact ⟨late, i :: rest, done, pend, ρ, I, hk, hp, rfl, .inl (.inr ⟨rest, rfl, he⟩), [], rfl, fun q h => by cases h⟩
      · exact ⟨late, j :: rest, done, pend, ρ, I, hk, hp, rfl, .inr ⟨j, rest, rfl, he, fun e => (List.nodup_cons.1 I.canN).1 (e ▸ hir), hir⟩, [], rfl, fun q h => by cases h⟩
    | false =>
      simp only [WK] at hk
      rw [Array.getElem?_eq_getElem hjlt] at hk
      simp only [he, cond_false] at hk
      obtain ⟨v, hrs, hk⟩ := hk
      obtain ⟨d, hd, h3⟩ := (names_of hn hjlt).2.2.1 he
      have hdst : ops[j].dst = some d := by simpa [dstOf, Array.getElem?_eq_getElem hjlt] using hd
      have hjn : j ∉ rest := (List.nodup_cons.1 I.canN).1
      have hjl : j ∉ late := fun h => I.lateC j h List.mem_cons_self
      have I' : Inv P N ops eff bef listed (j :: late) rest (j :: done) (updO ρ ops[j].dst v) ds a w := by
        refine ⟨I.size, ?_, I.closed, List.nodup_cons.2 ⟨hjl, I.lateN⟩, ?_, ?_, ?_, fun k hk => I.ltC k (List.mem_cons_of_mem _ hk), ht3, ?_, ?_, (List.nodup_cons.1 I.canN).2, I.tsize, I.tds, ?_, ?_⟩
        · intro k hk
          rw [I.free k hk]
          simp only [List.mem_cons]
          constructor
          · rintro (h | h | h)
            · exact .inl (.inr h)
            · exact .inl (.inl h)
            · exact .inr h
          · rintro ((h | h) | h)
            · exact .inr (.inl h)
            · exact .inl h
            · exact .inr (.inr h)
        · intro k hk
          rcases List.mem_cons.1 hk with rfl | hk
          · exact List.mem_cons_self
          · exact List.mem_cons_of_mem _ (I.lateD k hk)
        · intro k hk
          rcases List.mem_cons.1 hk with rfl | hk
          · exact hjn
          · exact fun h => I.lateC k hk (List.mem_cons_of_mem _ h)
        · intro k hk
          rcases List.mem_cons.1 hk with rfl | hk
          · exact hjlt
          · exact I.ltD k hk
        · intro k hk q hq
          rcases List.mem_cons.1 hk with rfl | hk
          · exact List.mem_cons_of_mem _ (List.contains_iff_mem.1 (List.all_eq_true.1 ht1 q hq))
          · exact List.mem_cons_of_mem _ (I.doneB k hk q hq)
        · intro k hk
          rcases List.mem_cons.1 hk with rfl | hk
          · exact hjn
          · exact fun h => I.doneC k hk (List.mem_cons_of_mem _ h)
        · intro k hk
          have hkd : dstOf ops j ≠ some k := hk j List.mem_cons_self
          rw [updO_other (by rw [hdst, ← hd]; exact hkd)]
          exact I.agree k fun q hq => hk q (List.mem_cons_of_mem _ hq)
        · intro k hk
          rcases List.mem_cons.1 hk with rfl | hk2
          · refine ⟨he, ?_⟩
            simp only [RSk, Array.getElem?_eq_getElem hjlt, hdst, updO_same]
            rw [hdst] at *
            refine RS.congr hrs fun t ht => (updO_other ?_).symm
            intro e; cases e
            exact absurd rfl ((h3 k hjlt).1 (by simpa [looks, Array.getElem?_eq_getElem hjlt] using ht)).1
          · obtain ⟨e1, e2⟩ := I.reads k hk2
            have hkd := I.lateD k hk2
            have hklt := I.ltD k hkd
            have hne : k ≠ j := fun e => hjl (e ▸ hk2)
            refine ⟨e1, ?_⟩
            simp only [RSk, Array.getElem?_eq_getElem hklt] at e2 ⊢
            cases hkdst : ops[k].dst with
            | none => rw [hkdst] at e2; exact e2
            | some dk =>
              rw [hkdst] at e2
              simp only at e2 ⊢
              have hdk : dstOf ops k = some dk := by simp [dstOf, Array.getElem?_eq_getElem hklt, hkdst]
              have h4 := (h3 k hklt).2 hne
              rw [updO_other (by rw [hdst]; intro e; cases e; exact h4 hdk)]
              refine RS.congr e2 fun t ht => (updO_other ?_).symm
              rw [hdst]; intro e; cases e
              have := ((h3 k hklt).1 (by simpa [looks, Array.getElem?_eq_getElem hklt] using ht)).2
              exact I.doneC j (I.doneB k hkd j this) List.mem_cons_self
      rcases List.mem_cons.1 hi with rfl | hir
      · exact ⟨_, _, _, _, _, I', hk, fun k h => by
          rcases List.mem_cons.1 h with rfl | h
          · exact List.mem_cons_self
          · exact List.mem_cons_of_mem _ (hp k h), by simp; omega, .inl (.inl List.mem_cons_self), [i], rfl, fun q h => by rcases List.mem_cons.1 h with rfl | h; exact he; cases h⟩
      · obtain ⟨l', c', d', p', ρ', g1, g2, g3, g4, g5, pp, g6, g7⟩ := ih _ _ _ _ _ _ _ I' hk (fun k h => by
          rcases List.mem_cons.1 h with rfl | h
          · exact List.mem_cons_self
          · exact List.mem_cons_of_mem _ (hp k h)) hir
        exact ⟨l', c', d', p', ρ', g1, g2, g3, by rw [g4]; simp; omega, g5, j :: pp, by rw [g6]; rfl, fun q h => by rcases List.mem_cons.1 h with rfl | h; exact he; exact g7 q h⟩
theorem Inv.empty {listed : Array Bool} {late can done : List Nat} {ρ : Nat → Value} {ds : List Nat} {a : Act} {w : World} (I : Inv P N ops eff bef listed late can done ρ ds a w)
    (hd : downOk ops = true) (h : Region.ready .any ops listed = []) : late = [] ∧ can = [] := by
  have key : ∀ n, ∀ i, i ≤ n → i < ops.size → listed.getD i true = true := by
    intro n
    induction n with
    | zero =>
      intro i hi hlt
      cases hf : listed.getD i true with
      | true => rfl
      | false =>
        exfalso
        have : i ∈ Region.ready .any ops listed := ready_of hlt hf fun o ho e he hb => by
          have h1 := List.all_eq_true.1 hd i (List.mem_range.2 hlt)
          rw [ho] at h1
          have h2 := List.all_eq_true.1 h1 e he
          simp only [hb, Bool.not_true, Bool.false_or] at h2
          have := blt_lt h2
          omega
        rw [h] at this; cases this
    | succ n ih =>
      intro i hi hlt
      cases hf : listed.getD i true with
      | true => rfl
      | false =>
        exfalso
        have : i ∈ Region.ready .any ops listed := ready_of hlt hf fun o ho e he hb => by
          have h1 := List.all_eq_true.1 hd i (List.mem_range.2 hlt)
          rw [ho] at h1
          have h2 := List.all_eq_true.1 h1 e he
          simp only [hb, Bool.not_true, Bool.false_or] at h2
          have h3 := blt_lt h2
          have h4 := ih e.on (by omega) (by omega)
          rw [getD_def (by rw [I.size]; omega)] at h4
          exact h4
        rw [h] at this; cases this
  constructor
  · cases late with
    | nil => rfl
    | cons x l =>
      have hx := I.ltD x (I.lateD x List.mem_cons_self)
      have := (I.free x hx).2 (.inl List.mem_cons_self)
      rw [key x x (Nat.le_refl _) hx] at this; cases this
  · cases can with
    | nil => rfl
    | cons x l =>
      have hx := I.ltC x List.mem_cons_self
      have := (I.free x hx).2 (.inr List.mem_cons_self)
      rw [key x x (Nat.le_refl _) hx] at this; cases this
theorem Inv.stepLate {listed : Array Bool} {late can done : List Nat} {ρ : Nat → Value} {ds : List Nat} {a : Act} {w : World} (I : Inv P N ops eff bef listed late can done ρ ds a w) (hn : namesOk N ops eff bef = true)
    {i d : Nat} (hi : i ∈ late) (hd : dstOf ops i = some d) (hr : ∀ k ∈ bef.getD i [], listed.getD k false = true) :
    Inv P N ops eff bef (listed.setIfInBounds i true) (late.erase i) can done ρ ds (a.put (some d) (ρ d)) w := by
  have hlt := I.ltD i (I.lateD i hi)
  have hls : i < listed.size := by rw [I.size]; exact hlt
  have hsub : ∀ k, k ∈ late.erase i → k ∈ late := fun k hk => List.mem_of_mem_erase hk
  obtain ⟨d', hd', h3⟩ := (names_of hn hlt).2.2.1 (I.reads i hi).1
  rw [hd] at hd'; cases hd'
  have hdN : d < N := by have := (names_of hn hlt).1; rw [hd] at this; exact blt_lt this
  refine ⟨by simp [I.size], ?_, ?_, I.lateN.erase i, fun k hk => I.lateD k (hsub k hk), fun k hk => I.lateC k (hsub k hk), I.ltD, I.ltC, I.topo, I.doneB, I.doneC, I.canN, by simp [Act.put, I.tsize], I.tds, ?_, fun k hk => I.reads k (hsub k hk)⟩
  · intro k hk
    rw [getD_set (by rw [I.size]; exact hk)]
    by_cases e : k = i
    · subst e
      simp only [if_pos]
      constructor
      · intro h; cases h
      · rintro (h | h)
        · exact absurd h (fun h => (List.Nodup.not_mem_erase I.lateN) h)
        · exact absurd h (I.lateC k hi)
    · rw [if_neg e, I.free k hk, List.mem_erase_of_ne e]
  · intro k hk hl q hq
    have hqs : ∀ b : Bool, q < listed.size → (listed.setIfInBounds i true).getD q b = if q = i then true else listed.getD q b := fun b h => getD_set h
    rw [getD_set (by rw [I.size]; exact hk)] at hl
    have hold : listed.getD q false = true := by
      by_cases e : k = i
      · subst e; exact hr q hq
      · rw [if_neg e] at hl; exact I.closed k hk hl q hq
    have hq2 : q < listed.size := by
      rcases Nat.lt_or_ge q listed.size with h | h
      · exact h
      · simp [Array.getD_eq_getD_getElem?, Array.getElem?_eq_none h] at hold
    rw [hqs _ hq2]
    split <;> simp_all
  · intro k hk
    by_cases e : k = d
    · subst e
      simp [Act.put, Array.getD_eq_getD_getElem?, I.tsize, hdN]
    · have : (a.put (some d) (ρ d)).tmps.getD k undef = a.tmps.getD k undef := by simp [Act.put, Array.getD_eq_getD_getElem?, Array.getElem?_setIfInBounds_ne (Ne.symm e)]
      rw [this]
      refine I.agree k fun j hj => ?_
      by_cases e2 : j = i
      · subst e2; rw [hd]; intro h; cases h; exact e rfl
      · exact hk j ((List.mem_erase_of_ne e2).2 hj)
theorem Inv.stepEff {listed : Array Bool} {late rest done : List Nat} {ρ : Nat → Value} {ds : List Nat} {a : Act} {w w' : World} {i : Nat} {v : Value} {pend : List Nat} (I : Inv P N ops eff bef listed late (i :: rest) done ρ ds a w) (hn : namesOk N ops eff bef = true)
    (he : eff.contains i = true) (hr : ∀ k ∈ bef.getD i [], listed.getD k false = true) (hp : ∀ k ∈ late, k ∈ pend) (hst : Stab P ops (bef.getD i []) pend (updO ρ (dstOf ops i) v) w') :
    Inv P N ops eff bef (listed.setIfInBounds i true) late rest (i :: done) (updO ρ (dstOf ops i) v) ds (a.put (dstOf ops i) v) w' := by
  have hlt := I.ltC i List.mem_cons_self
  have hls : i < listed.size := by rw [I.size]; exact hlt
  have ht := I.topo
  simp only [topoA, Bool.and_eq_true] at ht
  obtain ⟨ht1, ht3⟩ := ht
  have hil : i ∉ late := fun h => I.lateC i h List.mem_cons_self
  have hir : i ∉ rest := (List.nodup_cons.1 I.canN).1
  have hlate : ∀ k ∈ late, k ∉ bef.getD i [] := fun k hk hb => by
    have hkd := I.ltD k (I.lateD k hk)
    have h0 := (I.free k hkd).2 (.inl hk)
    rw [getD_def (by rw [I.size]; exact hkd), hr k hb] at h0
    cases h0
  refine ⟨by simp [I.size], ?_, ?_, I.lateN, fun k hk => List.mem_cons_of_mem _ (I.lateD k hk), fun k hk h => I.lateC k hk (List.mem_cons_of_mem _ h), ?_, fun k hk => I.ltC k (List.mem_cons_of_mem _ hk), ht3, ?_, ?_, (List.nodup_cons.1 I.canN).2, ?_, ?_, ?_, ?_⟩
  · intro k hk
    rw [getD_set (by rw [I.size]; exact hk)]
    by_cases e : k = i
    · subst e
      simp only [if_pos]
      constructor
      · intro h; cases h
      · rintro (h | h)
        · exact absurd h hil
        · exact absurd h hir
    · rw [if_neg e, I.free k hk, List.mem_cons]
      constructor
      · rintro (h | h | h)
        · exact .inl h
        · exact absurd h e
        · exact .inr h
      · rintro (h | h)
        · exact .inl h
        · exact .inr (.inr h)
  · intro k hk hl q hq
    rw [getD_set (by rw [I.size]; exact hk)] at hl
    have hold : listed.getD q false = true := by
      by_cases e : k = i
      · subst e; exact hr q hq
      · rw [if_neg e] at hl; exact I.closed k hk hl q hq
    have hq2 : q < listed.size := by
      rcases Nat.lt_or_ge q listed.size with h | h
      · exact h
      · simp [Array.getD_eq_getD_getElem?, Array.getElem?_eq_none h] at hold
    rw [getD_set hq2]
    split <;> simp_all
  · intro k hk
    rcases List.mem_cons.1 hk with rfl | hk
    · exact hlt
    · exact I.ltD k hk
  · intro k hk q hq
    rcases List.mem_cons.1 hk with rfl | hk
    · exact List.mem_cons_of_mem _ (List.contains_iff_mem.1 (List.all_eq_true.1 ht1 q hq))
    · exact List.mem_cons_of_mem _ (I.doneB k hk q hq)
  · intro k hk
    rcases List.mem_cons.1 hk with rfl | hk
    · exact hir
    · exact fun h => I.doneC k hk (List.mem_cons_of_mem _ h)
  · cases dstOf ops i <;> simp [Act.put, I.tsize]
  · cases dstOf ops i <;> exact I.tds
  · intro k hk
    have hdN := (names_of hn hlt).1
    cases hd : dstOf ops i with
    | none => exact I.agree k hk
    | some d =>
      rw [hd] at hdN
      have hdN := blt_lt hdN
      by_cases e : k = d
      · subst e
        rw [updO_same]
        simp [Act.put, Array.getD_eq_getD_getElem?, I.tsize, hdN]
      · rw [updO_other (by intro h; cases h; exact e rfl), ← I.agree k hk]
        simp [Act.put, Array.getD_eq_getD_getElem?, Array.getElem?_setIfInBounds_ne (Ne.symm e)]
  · intro k hk
    refine ⟨(I.reads k hk).1, ?_⟩
    have hkp := hp k hk
    have hnb := hlate k hk
    clear hp
    induction pend with
    | nil => cases hkp
    | cons x t ih =>
      obtain ⟨s1, s2⟩ := hst
      rcases List.mem_cons.1 hkp with rfl | h
      · have : (bef.getD i []).contains k = false := by
          cases hc : (bef.getD i []).contains k with
          | false => rfl
          | true => exact absurd (List.contains_iff_mem.1 hc) hnb
        rw [this] at s1
        exact s1
      · exact ih s2 h
theorem WK.any {can0 : List Nat} (hc : canOk N ops eff bef can0 = true) : ∀ (fuel : Nat) (listed : Array Bool) (late can done pend : List Nat) (ρ : Nat → Value) (ds : List Nat) (a : Act) (w : World),
    Inv P N ops eff bef listed late can done ρ ds a w → WK P r N ops eff bef Q can pend ρ ds w → (∀ k ∈ late, k ∈ pend) → late.length + can.length = fuel → headOk eff bef can = true →
    wpAnyIn (Fe r) 0 P .any ops (QA N Q) fuel listed a w := by
  simp only [canOk, Bool.and_eq_true] at hc
  obtain ⟨⟨⟨⟨⟨⟨⟨hb, hdn⟩, _⟩, hn⟩, _⟩, _⟩, _⟩, _⟩ := hc
  have fin : ∀ (listed : Array Bool) (done pend : List Nat) (ρ : Nat → Value) (ds : List Nat) (a : Act) (w : World), Inv P N ops eff bef listed [] [] done ρ ds a w → WK P r N ops eff bef Q [] pend ρ ds w → QA N Q .normal a w :=
    fun listed done pend ρ ds a w I hk => ⟨ρ, ds, ⟨I.tsize, fun k => I.agree k (fun _ h => by cases h), I.tds⟩, hk⟩
  intro fuel
  induction fuel with
  | zero =>
    intro listed late can done pend ρ ds a w I hk hp hl hh
    obtain rfl : late = [] := List.eq_nil_of_length_eq_zero (by omega)
    obtain rfl : can = [] := List.eq_nil_of_length_eq_zero (by omega)
    refine ⟨?_, fin _ _ _ _ _ _ _ I hk⟩
    cases h : Region.ready .any ops listed with
    | nil => rfl
    | cons i t =>
      obtain ⟨h1, h2, _⟩ := mem_ready (show i ∈ Region.ready .any ops listed by rw [h]; exact List.mem_cons_self)
      rcases (I.free i h1).1 h2 with h | h <;> cases h
  | succ fuel ih =>
    intro listed late can done pend ρ ds a w I hk hp hl hh
    refine ⟨fun h => ?_, fun i hi => ?_⟩
    · obtain ⟨rfl, rfl⟩ := I.empty hdn h
      simp at hl
    · have hr := ready_bef hb I.size I.closed hi
      obtain ⟨hlt, hf, _⟩ := mem_ready hi
      have hsplit : ∃ late' can' done' pend' ρ', Inv P N ops eff bef listed late' can' done' ρ' ds a w ∧ WK P r N ops eff bef Q can' pend' ρ' ds w ∧ (∀ k ∈ late', k ∈ pend') ∧ late'.length + can'.length = late.length + can.length ∧
          (i ∈ late' ∨ ∃ rest, can' = i :: rest ∧ eff.contains i = true) ∧ headOk eff bef can' = true := by
        rcases (I.free i hlt).1 hf with h | h
        · exact ⟨_, _, _, _, _, I, hk, hp, rfl, .inl h, hh⟩
        · obtain ⟨l', c', d', p', ρ', g1, g2, g3, g4, g5, pp, g6, g7⟩ := Inv.adv hn hr can late done pend ρ ds a w I hk hp h
          have hh' : headOk eff bef c' = true := head_app (p := pp) (by rw [← g6]; exact hh)
          refine ⟨l', c', d', p', ρ', g1, g2, g3, g4, ?_, hh'⟩
          rcases g5 with g5 | ⟨j, rest, rfl, he, hne, hir⟩
          · exact g5
          · exfalso
            simp only [headOk, he, Bool.not_true, Bool.false_or, Bool.and_eq_true] at hh'
            have hl := hr j (List.contains_iff_mem.1 (List.all_eq_true.1 hh'.1 i hir))
            have hjlt := g1.ltC j List.mem_cons_self
            have h0 := (g1.free j hjlt).2 (.inr List.mem_cons_self)
            rw [getD_def (by rw [g1.size]; exact hjlt), hl] at h0
            cases h0
      clear I hk hp hh
      obtain ⟨late', can', done', pend', ρ', I, hk, hp, hl', hcase, hh⟩ := hsplit
      have hoi := Array.getElem?_eq_getElem hlt
      have hlook := I.look hn hlt hr
      have hlook' : ∀ t ∈ ops[i].looksAt ops, a.tmps.getD t undef = ρ' t := by simpa [looks, hoi] using hlook
      have hfit : Fits N a (fun k => a.tmps.getD k undef) ds := ⟨I.tsize, fun _ => rfl, I.tds⟩
      have hplain := (names_of hn hlt).2.1 _ hoi
      have hwant : Region.wanted ops[i] (yielded ops a.tmps) = Region.wanted ops[i] (yieldE ops ρ') := by
        rw [show yielded ops a.tmps = yieldE ops (fun k => a.tmps.getD k undef) from funext (yielded_eq hfit)]
        exact wanted_congr hlook'
      have hexec : execOp a.eval ops[i] = execOp (ev ρ') ops[i] := by
        rw [hfit.eval]; exact ev_congr (ops := ops) hplain hlook'
      unfold wpOpIn
      rw [hoi]
      simp only [hwant]
      rcases hcase with hil | ⟨rest, rfl, he⟩
      · have hrd := (I.reads i hil).2
        simp only [RSk, hoi] at hrd
        cases hd : ops[i].dst with
        | none => rw [hd] at hrd; exact hrd.elim
        | some d =>
          rw [hd] at hrd
          simp only at hrd
          have hdo : dstOf ops i = some d := by simp [dstOf, hoi, hd]
          have I' := I.stepLate hn hil hdo hr
          have hnext := ih _ _ _ _ pend' _ _ _ _ I' hk (fun k hk => hp k (List.mem_of_mem_erase hk)) (by
            have := List.length_erase_of_mem hil
            have := List.length_pos_of_mem hil
            omega) hh
          rcases hrd.2 with ⟨hw, hx⟩ | ⟨hw, hx⟩
          · rw [if_pos hw]
            refine St.wpIn (ρ := ρ') hexec (K := fun v w' => v = ρ' d ∧ w' = w) ⟨by cases ho : ops[i].op <;> simp_all [plainOp], by rw [hx]; exact ⟨rfl, rfl⟩⟩ ?_
            rintro v w' ⟨rfl, rfl⟩
            rw [hd]; exact hnext
          · rw [if_neg (by rw [hw]; simp)]
            refine ⟨fun _ _ => trivial, ?_⟩
            rw [← hx]; exact hnext
      · simp only [WK, hoi, he, cond_true] at hk
        have hdo : dstOf ops i = ops[i].dst := by simp [dstOf, hoi]
        rcases hk with ⟨hw, hst⟩ | ⟨hw, hstab, hk'⟩
        · rw [if_pos hw]
          refine St.wpIn (ρ := ρ') hexec hst ?_
          rintro v w' ⟨hstab, hk'⟩
          rw [← hdo] at hstab hk' ⊢
          exact ih _ _ _ _ pend' _ _ _ _ (I.stepEff hn he hr hp hstab) hk' hp (by simp at hl'; omega) (head_app (p := [i]) hh)
        · rw [if_neg (by rw [hw]; simp)]
          refine ⟨fun _ _ => trivial, ?_⟩
          rw [← hdo] at hstab hk' ⊢
          exact ih _ _ _ _ pend' _ _ _ _ (I.stepEff hn he hr hp hstab) hk' hp (by simp at hl'; omega) (head_app (p := [i]) hh)
/-- the rule -/
theorem WC.draw {id : Nat} {l : List Oper} {ρ : Nat → Value} {ds : List Nat} {w : World} (hm : P.follows .mixedOrders = true) (eff : List Nat) (bef : List (List Nat)) (can : List Nat) (hc : canOk N l.toArray eff bef can = true)
    (h : WK P r N l.toArray eff bef Q can [] ρ ds w.drew) : WC P r N (.region id l.toArray true) Q ρ ds w := fun a ha => by
  have hc' := hc
  simp only [canOk, Bool.and_eq_true] at hc'
  obtain ⟨⟨⟨⟨⟨⟨⟨hb, hdn⟩, htp⟩, hn⟩, hlen⟩, hnd⟩, hall⟩, hcov⟩ := hc'
  have hlen : can.length = l.toArray.size := by simpa using hlen
  have hnd : can.Nodup := by simpa using hnd
  have hltc : ∀ i ∈ can, i < l.toArray.size := fun i hi => blt_lt (List.all_eq_true.1 hall i hi)
  have hmem : ∀ i, i < l.toArray.size → i ∈ can := fun i hi => List.contains_iff_mem.1 (List.all_eq_true.1 hcov i (List.mem_range.2 hi))
  have hI : Inv P N l.toArray eff bef (Array.replicate l.toArray.size false) [] can [] ρ ds a w.drew := by
    refine ⟨by simp, ?_, ?_, List.nodup_nil, (fun _ h => by cases h), (fun _ h => by cases h), (fun _ h => by cases h), hltc, (topo_A htp).1, (fun _ h => by cases h), (fun _ h => by cases h), hnd, ha.1, ha.2.2, fun k _ => ha.2.1 k, (fun _ h => by cases h)⟩
    · intro i hi
      have : (Array.replicate l.toArray.size false).getD i true = false := by simp [Array.getD_eq_getD_getElem?, Array.getElem?_replicate, show i < l.length by simpa using hi]
      exact ⟨fun _ => .inr (hmem i hi), fun _ => this⟩
    · intro i hi h
      have : (Array.replicate l.toArray.size false).getD i true = false := by simp [Array.getD_eq_getD_getElem?, Array.getElem?_replicate, show i < l.length by simpa using hi]
      rw [this] at h; cases h
  exact wpIn_region_any hm (WK.any hc _ _ _ _ _ _ _ _ _ _ hI h (fun _ h => by cases h) (by simp [hlen]) (topo_A htp).2)
end
/-! ### types -/
def Ty (P : Program) (t : TypeId) (z : Value) (sz by_ : Nat) : Prop := ∃ i, P.info? t = some i ∧ i.zero = some z ∧ i.size = sz ∧ i.bytes = by_
def aggD : TypeDesc → Bool
  | .struct _ => true
  | .array _ _ => true
  | _ => false
abbrev oneC : Value → Bool := Value.oneCell'
def oneCX : Value → Bool
  | .agg _ => false
  | .tuple _ => false
  | _ => true
section
variable {P : Program} {w : World} {t : TypeId} {z : Value} {sz by_ : Nat}
theorem run_program : (program).run P w = .ok P w := rfl
theorem Ty.info (h : Ty P t z sz by_) : ∃ i, (typeInfo t).run P w = .ok i w ∧ i.zero = some z ∧ i.size = sz ∧ i.bytes = by_ := by
  obtain ⟨i, h1, h2⟩ := h
  exact ⟨i, by simp [typeInfo, Sem.run_bind, run_program, Result.andThen, h1, Sem.run_pure], h2⟩
theorem Ty.size (h : Ty P t z sz by_) : (Go.sizeOf t).run P w = .ok sz w := by
  obtain ⟨i, h1, h2, h3, h4⟩ := h.info (w := w)
  simp [Go.sizeOf, Sem.run_bind, h1, Result.andThen, Sem.run_pure, h3]
theorem Ty.zero (h : Ty P t z sz by_) : (zeroValue t).run P w = .ok z w := by
  obtain ⟨i, h1, h2, h3, h4⟩ := h.info (w := w)
  simp [zeroValue, Sem.run_bind, h1, Result.andThen, Sem.run_pure, h2]
theorem run_under {d : TypeDesc} (h : P.underlying t = some d) : (underlying t).run P w = .ok d w := by
  simp [underlying, Sem.run_bind, run_program, Result.andThen, h, Sem.run_pure]
theorem run_isAgg {d : TypeDesc} (h : P.underlying t = some d) : (isAgg t).run P w = .ok (aggD d) w := by
  simp [isAgg, Sem.run_bind, run_under h, Result.andThen]
  cases d <;> rfl
theorem run_load {p : Addr} {v : Value} (h : w.cell? p = some v) : (load p).run P w = .ok v w := by
  simp [load, Sem.run, h]
theorem run_store {p : Addr} {v u : Value} (h : w.cell? p = some u) (hf : w.frozen? p = false) (hv : oneC v = true) : (store p v).run P w = .ok () (w.setCell p v) := by
  cases v <;> first | (simp [Value.oneCell'] at hv; done) | simp [store, Sem.run, h, hf]
theorem run_loadCellsFrom {a : Addr} : ∀ (vs : List Value) (i : Nat) (acc : Array Value), (∀ j u, vs[j]? = some u → w.cell? (a.add (i + j)) = some u) → (loadCellsFrom a i vs.length acc).run P w = .ok (acc ++ vs.toArray) w
  | [], i, acc, _ => by simp [loadCellsFrom, Sem.run_pure]
  | v :: vs, i, acc, h => by
    have h0 := h 0 v rfl
    simp only [List.length_cons, loadCellsFrom, Sem.run_bind]
    rw [Nat.add_zero] at h0
    rw [run_load h0]
    simp only [Result.andThen]
    rw [run_loadCellsFrom vs (i + 1) (acc.push v) (fun j u hj => by have := h (j + 1) u hj; rwa [show i + (j + 1) = i + 1 + j from by omega] at this)]
    simp
theorem run_loadCells {a : Addr} {vs : List Value} {n : Nat} (hn : vs.length = n) (h : ∀ j u, vs[j]? = some u → w.cell? (a.add j) = some u) : (loadCells a n).run P w = .ok vs.toArray w := by
  subst hn
  have := run_loadCellsFrom (P := P) (w := w) (a := a) vs 0 #[] (fun j u hj => by rw [Nat.zero_add]; exact h j u hj)
  simpa [loadCells] using this
theorem run_loadVar1 {d : TypeDesc} (ht : P.underlying t = some d) (hd : aggD d = false) {p : Addr} {v : Value} (h : w.cell? p = some v) : (loadVar t p).run P w = .ok v w := by
  simp [loadVar, Sem.run_bind, run_isAgg ht, hd, Result.andThen, run_load h]
theorem run_loadVarA {d : TypeDesc} (ht : P.underlying t = some d) (hd : aggD d = true) (hy : Ty P t z sz by_) {p : Addr} {vs : List Value} (hn : vs.length = sz) (h : ∀ j u, vs[j]? = some u → w.cell? (p.add j) = some u) : (loadVar t p).run P w = .ok (.agg vs.toArray) w := by
  simp [loadVar, Sem.run_bind, run_isAgg ht, hd, Result.andThen, hy.size, run_loadCells hn h, Sem.run_pure]
theorem add_plain (b o n : Nat) : (⟨b, o, none⟩ : Addr).add n = ⟨b, o + n, none⟩ := by
  unfold Addr.add; split <;> simp_all
end
section
variable {P : Program} {w : World} {ρ : Nat → Value} {d : Option Tmp} {ty : TypeId} {ps : String} {af : Array Edge} {g : Option (Nat × Bool)}
/-! ### operations that only read -/
theorem x_move {x : Operand} {v : Value} (hx : ev ρ x = v) : (execOp (ev ρ) ⟨d, .move x, ty, ps, af, g⟩).run P w = .ok (.value v) w := by subst hx; rfl
theorem x_assign {x : Operand} {v : Value} (hx : ev ρ x = v) : (execOp (ev ρ) ⟨d, .assign x, ty, ps, af, g⟩).run P w = .ok (.value v) w := by subst hx; rfl
theorem x_load {t : TypeId} {x : Operand} {p : Addr} {v : Value} {dd : TypeDesc} (ht : P.underlying t = some dd) (hd : aggD dd = false) (hx : ev ρ x = .pointer (some p)) (hc : w.cell? p = some v) :
    (execOp (ev ρ) ⟨d, .load t x, ty, ps, af, g⟩).run P w = .ok (.value v) w := by
  simp [execOp, Instr.loadAt, Instr.sureAddr, hx, Sem.run_bind, Result.andThen, Sem.run_pure, run_loadVar1 ht hd hc]
theorem x_loadA {t : TypeId} {x : Operand} {p : Addr} {vs : List Value} {dd : TypeDesc} {z : Value} {sz by_ : Nat} (ht : P.underlying t = some dd) (hd : aggD dd = true) (hy : Ty P t z sz by_) (hx : ev ρ x = .pointer (some p)) (hn : vs.length = sz) (hc : ∀ j u, vs[j]? = some u → w.cell? (p.add j) = some u) :
    (execOp (ev ρ) ⟨d, .load t x, ty, ps, af, g⟩).run P w = .ok (.value (.agg vs.toArray)) w := by
  simp [execOp, Instr.loadAt, Instr.sureAddr, hx, Sem.run_bind, Result.andThen, Sem.run_pure, run_loadVarA ht hd hy hn hc]
theorem x_nilCheck {x : Operand} {p : Addr} (hx : ev ρ x = .pointer (some p)) : (execOp (ev ρ) ⟨d, .nilCheck x, ty, ps, af, g⟩).run P w = .ok (.value (.pointer (some p))) w := by
  simp [execOp, hx, Sem.run_pure]
theorem x_nilCheckF {x : Operand} {f : FuncId} {c1 c2 : Array Value} (hx : ev ρ x = .func (.func f) c1 c2) : (execOp (ev ρ) ⟨d, .nilCheck x, ty, ps, af, g⟩).run P w = .ok (.value (.func (.func f) c1 c2)) w := by
  simp [execOp, hx, Sem.run_pure]
theorem x_nilCheckY {x : Operand} {l : Nat} {c1 c2 : Array Value} (hx : ev ρ x = .func (.yield l) c1 c2) : (execOp (ev ρ) ⟨d, .nilCheck x, ty, ps, af, g⟩).run P w = .ok (.value (.func (.yield l) c1 c2)) w := by
  simp [execOp, hx, Sem.run_pure]
theorem x_nilCheckM {x : Operand} {m : Option Nat} (hx : ev ρ x = .map m) : (execOp (ev ρ) ⟨d, .nilCheck x, ty, ps, af, g⟩).run P w = .ok (.value (.map m)) w := by
  simp [execOp, hx, Sem.run_pure]
theorem x_fieldAddr {s : TypeId} {x : Operand} {f b o : Nat} {fs : Array Field} {fl : Field} {z : Value} {sz by_ k : Nat} (ht : P.underlying s = some (.struct fs)) (hf : fs[f]? = some fl) (hk : fl.offset = k) (hy : Ty P fl.type z sz by_) (hs : sz ≠ 0) (hx : ev ρ x = .pointer (some ⟨b, o, none⟩)) :
    (execOp (ev ρ) ⟨d, .fieldAddr s x f, ty, ps, af, g⟩).run P w = .ok (.value (.pointer (some ⟨b, o + k, none⟩))) w := by
  subst hk
  simp [execOp, Instr.fieldAt, Instr.sureAddr, hx, hf, Sem.run_bind, Result.andThen, Sem.run_pure, run_under ht, fieldPlace, hy.size, hs, add_plain]
theorem x_indexAddr {t e : TypeId} {x ix : Operand} {b o n c : Nat} {k : IntKind} {i : Int} {z : Value} {sz by_ : Nat} (ht : P.underlying t = some (.slice e)) (hy : Ty P e z sz by_) (hx : ev ρ x = .slice (some ⟨b, o, none⟩) n c) (hi : ev ρ ix = .int k i) (h0 : 0 ≤ i) (h1 : i < n) :
    (execOp (ev ρ) ⟨d, .indexAddr t x ix, ty, ps, af, g⟩).run P w = .ok (.value (.pointer (some ⟨b, o + i.toNat * sz, none⟩))) w := by
  simp [execOp, Instr.indexAt, Instr.sureAddr, hx, hi, asIntOf, Sem.run_bind, Result.andThen, Sem.run_pure, run_under ht, hy.size, h0, h1, add_plain]
theorem x_extract {x : Operand} {vs : Array Value} {i : Nat} {v : Value} (hx : ev ρ x = .tuple vs) (hv : vs[i]? = some v) : (execOp (ev ρ) ⟨d, .extract x i, ty, ps, af, g⟩).run P w = .ok (.value v) w := by
  simp [execOp, Instr.extract, hx, hv, Sem.run_bind, Result.andThen, Sem.run_pure]
theorem x_makeFunc {f : Fn} {a c : Array Operand} : (execOp (ev ρ) ⟨d, .makeFunc f a c, ty, ps, af, g⟩).run P w = .ok (.value (.func f (a.map (ev ρ)) (c.map (ev ρ)))) w := by
  simp [execOp, Instr.makeFunc, Sem.run_bind, Result.andThen, Sem.run_pure]
theorem x_not {t : TypeId} {x : Operand} {b : Bool} (hx : ev ρ x = .bool b) : (execOp (ev ρ) ⟨d, .unOp .not t x, ty, ps, af, g⟩).run P w = .ok (.value (.bool !b)) w := by
  simp [execOp, Op.unary, hx, Sem.run_bind, Result.andThen, Sem.run_pure]
theorem x_lenSlice {t e : TypeId} {x : Operand} {a : Option Addr} {n c : Nat} {ats : Array TypeId} (ht : P.underlying t = some (.slice e)) (ha : ats[0]? = some t) (hx : ev ρ x = .slice a n c) :
    (execOp (ev ρ) ⟨d, .call { callee := .builtin .len, args := #[x], argTypes := ats }, ty, ps, af, g⟩).run P w = .ok (.value (.int .i64 n)) w := by
  simp [execOp, resolve, invoke, builtin, Builtin.len_, ha, hx, Sem.run_bind, Result.andThen, Sem.run_pure, run_under ht, goInt]
theorem x_lenStr {t : TypeId} {x : Operand} {s : ByteArray} {ats : Array TypeId} (ht : P.underlying t = some .string) (ha : ats[0]? = some t) (hx : ev ρ x = .string s) :
    (execOp (ev ρ) ⟨d, .call { callee := .builtin .len, args := #[x], argTypes := ats }, ty, ps, af, g⟩).run P w = .ok (.value (.int .i64 s.size)) w := by
  simp [execOp, resolve, invoke, builtin, Builtin.len_, ha, hx, Sem.run_bind, Result.andThen, Sem.run_pure, run_under ht, goInt]
theorem x_lenMap {t k e : TypeId} {x : Operand} {m : Nat} {es : Array MapEntry} {cl : Nat} {ats : Array TypeId} (ht : P.underlying t = some (.map k e)) (ha : ats[0]? = some t) (hx : ev ρ x = .map (some m)) (hm : w.heap[m]? = some (.map es cl)) :
    (execOp (ev ρ) ⟨d, .call { callee := .builtin .len, args := #[x], argTypes := ats }, ty, ps, af, g⟩).run P w = .ok (.value (.int .i64 es.size)) w := by
  simp [execOp, resolve, invoke, builtin, Builtin.len_, ha, hx, Sem.run_bind, Result.andThen, Sem.run_pure, run_under ht, goInt, getObj, Sem.run, hm]
theorem x_lenNilMap {t k e : TypeId} {x : Operand} {ats : Array TypeId} (ht : P.underlying t = some (.map k e)) (ha : ats[0]? = some t) (hx : ev ρ x = .map none) :
    (execOp (ev ρ) ⟨d, .call { callee := .builtin .len, args := #[x], argTypes := ats }, ty, ps, af, g⟩).run P w = .ok (.value (.int .i64 0)) w := by
  simp [execOp, resolve, invoke, builtin, Builtin.len_, ha, hx, Sem.run_bind, Result.andThen, Sem.run_pure, run_under ht, goInt]
/-! integers -/
theorem wrap_in {n : Int} (h0 : -9223372036854775808 ≤ n) (h1 : n ≤ 9223372036854775807) : IntKind.i64.wrap n = n := by
  simp only [IntKind.wrap, IntKind.bits, IntKind.signed]
  simp
  omega
theorem x_bin {op : BinOp} {t t2 : TypeId} {x y : Operand} {k : IntKind} {a b : Int} {v : Value} (hx : ev ρ x = .int k a) (hy : ev ρ y = .int k b) (hv : (binOp op t (.int k a) (.int k b)).run P w = .ok v w) :
    (execOp (ev ρ) ⟨d, .binOp op t x y t2, ty, ps, af, g⟩).run P w = .ok (.value v) w := by
  have hg : (eqGuard op t x y (.int k a) (.int k b)).run P w = .ok () w := by
    unfold eqGuard; cases op <;> simp [Sem.run_pure]
  simp [execOp, hx, hy, Sem.run_bind, hg, hv, Result.andThen, Sem.run_pure]
theorem x_add {t t2 : TypeId} {x y : Operand} {a b : Int} (hx : ev ρ x = .int .i64 a) (hy : ev ρ y = .int .i64 b) (h0 : -9223372036854775808 ≤ a + b) (h1 : a + b ≤ 9223372036854775807) :
    (execOp (ev ρ) ⟨d, .binOp .add t x y t2, ty, ps, af, g⟩).run P w = .ok (.value (.int .i64 (a + b))) w := x_bin hx hy (by simp [binOp, Op.intArith, Sem.run_pure, wrap_in h0 h1])
theorem x_sub {t t2 : TypeId} {x y : Operand} {a b : Int} (hx : ev ρ x = .int .i64 a) (hy : ev ρ y = .int .i64 b) (h0 : -9223372036854775808 ≤ a - b) (h1 : a - b ≤ 9223372036854775807) :
    (execOp (ev ρ) ⟨d, .binOp .sub t x y t2, ty, ps, af, g⟩).run P w = .ok (.value (.int .i64 (a - b))) w := x_bin hx hy (by simp [binOp, Op.intArith, Sem.run_pure, wrap_in h0 h1])
theorem x_mul {t t2 : TypeId} {x y : Operand} {a b : Int} (hx : ev ρ x = .int .i64 a) (hy : ev ρ y = .int .i64 b) (h0 : -9223372036854775808 ≤ a * b) (h1 : a * b ≤ 9223372036854775807) :
    (execOp (ev ρ) ⟨d, .binOp .mul t x y t2, ty, ps, af, g⟩).run P w = .ok (.value (.int .i64 (a * b))) w := x_bin hx hy (by simp [binOp, Op.intArith, Sem.run_pure, wrap_in h0 h1])
theorem x_quo {t t2 : TypeId} {x y : Operand} {a b : Int} (hx : ev ρ x = .int .i64 a) (hy : ev ρ y = .int .i64 b) (h0 : 0 ≤ a) (h1 : a ≤ 9223372036854775807) (hb : 0 < b) :
    (execOp (ev ρ) ⟨d, .binOp .quo t x y t2, ty, ps, af, g⟩).run P w = .ok (.value (.int .i64 (a / b))) w := x_bin hx hy (by
  have e : a.tdiv b = a / b := Int.tdiv_eq_ediv_of_nonneg h0
  have h2 : 0 ≤ a / b := Int.ediv_nonneg h0 (by omega)
  have h3 : a / b ≤ a := Int.ediv_le_self b h0
  simp [binOp, Op.intDiv, Sem.run_pure, show b ≠ 0 by omega, e, wrap_in (n := a / b) (by omega) (by omega)])
theorem x_rem {t t2 : TypeId} {x y : Operand} {a b : Int} (hx : ev ρ x = .int .i64 a) (hy : ev ρ y = .int .i64 b) (h0 : 0 ≤ a) (hb : 0 < b) :
    (execOp (ev ρ) ⟨d, .binOp .rem t x y t2, ty, ps, af, g⟩).run P w = .ok (.value (.int .i64 (a % b))) w := x_bin hx hy (by
  have e : a.tmod b = a % b := Int.tmod_eq_emod_of_nonneg h0
  simp [binOp, Op.intDiv, Sem.run_pure, show b ≠ 0 by omega, e])
theorem x_lss {t t2 : TypeId} {x y : Operand} {k : IntKind} {a b : Int} (hx : ev ρ x = .int k a) (hy : ev ρ y = .int k b) :
    (execOp (ev ρ) ⟨d, .binOp .lss t x y t2, ty, ps, af, g⟩).run P w = .ok (.value (.bool (decide (a < b)))) w := x_bin hx hy (by simp [binOp, Op.intCmp, Sem.run_pure])
theorem x_leq {t t2 : TypeId} {x y : Operand} {k : IntKind} {a b : Int} (hx : ev ρ x = .int k a) (hy : ev ρ y = .int k b) :
    (execOp (ev ρ) ⟨d, .binOp .leq t x y t2, ty, ps, af, g⟩).run P w = .ok (.value (.bool (decide (a ≤ b)))) w := x_bin hx hy (by simp [binOp, Op.intCmp, Sem.run_pure])
theorem x_gtr {t t2 : TypeId} {x y : Operand} {k : IntKind} {a b : Int} (hx : ev ρ x = .int k a) (hy : ev ρ y = .int k b) :
    (execOp (ev ρ) ⟨d, .binOp .gtr t x y t2, ty, ps, af, g⟩).run P w = .ok (.value (.bool (decide (b < a)))) w := x_bin hx hy (by simp [binOp, Op.intCmp, Sem.run_pure])
theorem x_geq {t t2 : TypeId} {x y : Operand} {k : IntKind} {a b : Int} (hx : ev ρ x = .int k a) (hy : ev ρ y = .int k b) :
    (execOp (ev ρ) ⟨d, .binOp .geq t x y t2, ty, ps, af, g⟩).run P w = .ok (.value (.bool (decide (b ≤ a)))) w := x_bin hx hy (by simp [binOp, Op.intCmp, Sem.run_pure])
theorem x_eql {t t2 : TypeId} {x y : Operand} {k : IntKind} {a b : Int} (hx : ev ρ x = .int k a) (hy : ev ρ y = .int k b) :
    (execOp (ev ρ) ⟨d, .binOp .eql t x y t2, ty, ps, af, g⟩).run P w = .ok (.value (.bool (decide (a = b)))) w := x_bin hx hy (by simp only [binOp, Op.intCmp, Sem.run_pure]; simp; cases h : a == b <;> simp_all)
theorem x_neq {t t2 : TypeId} {x y : Operand} {k : IntKind} {a b : Int} (hx : ev ρ x = .int k a) (hy : ev ρ y = .int k b) :
    (execOp (ev ρ) ⟨d, .binOp .neq t x y t2, ty, ps, af, g⟩).run P w = .ok (.value (.bool (decide (a ≠ b)))) w := x_bin hx hy (by simp only [binOp, Op.intCmp, Sem.run_pure]; simp; cases h : a == b <;> simp_all)
/-! strings -/
theorem x_binS {op : BinOp} {t t2 : TypeId} {x y : Operand} {a b : ByteArray} {v : Value} (hx : ev ρ x = .string a) (hy : ev ρ y = .string b) (hv : (Op.stringOp op a b).run P w = .ok v w) :
    (execOp (ev ρ) ⟨d, .binOp op t x y t2, ty, ps, af, g⟩).run P w = .ok (.value v) w := by
  have hg : (eqGuard op t x y (.string a) (.string b)).run P w = .ok () w := by
    unfold eqGuard; cases op <;> simp [Sem.run_pure]
  have hb : (binOp op t (.string a) (.string b)).run P w = .ok v w := by rw [← hv]; cases op <;> simp [binOp]
  simp [execOp, hx, hy, Sem.run_bind, hg, hb, Result.andThen, Sem.run_pure]
theorem toList_loop (a : ByteArray) : ∀ (n i : Nat) (r : List UInt8), a.size - i = n → ByteArray.toList.loop a i r = r.reverse ++ a.data.toList.drop i := by
  intro n
  induction n with
  | zero =>
    intro i r h
    unfold ByteArray.toList.loop
    have h2 : a.data.size ≤ i := by have : a.data.size = a.size := rfl; omega
    rw [if_neg (by omega), List.drop_eq_nil_of_le (by simpa using h2)]; simp
  | succ n ih =>
    intro i r h
    unfold ByteArray.toList.loop
    have hlt : i < a.data.size := by have : a.data.size = a.size := rfl; omega
    rw [if_pos (by omega), ih (i + 1) _ (by omega), List.drop_eq_getElem_cons (l := a.data.toList) (i := i) (by simpa using hlt)]
    have hg : a.get! i = a.data.toList[i]'(by simpa using hlt) := by
      show a.data[i]! = _
      rw [getElem!_pos a.data i hlt]; rfl
    rw [hg]; simp
theorem toList_data (a : ByteArray) : a.toList = a.data.toList := by
  unfold ByteArray.toList
  rw [toList_loop a a.size 0 [] (by omega)]; simp
theorem str_eq {a b : ByteArray} : (a.toList == b.toList) = decide (a = b) := by
  rw [toList_data, toList_data]
  by_cases h : a = b
  · subst h; simp
  · rw [decide_eq_false h]
    cases e : (a.data.toList == b.data.toList) with
    | false => rfl
    | true => exact absurd (ByteArray.ext (Array.ext' (by simpa using e))) h
theorem x_eqlS {t t2 : TypeId} {x y : Operand} {a b : ByteArray} (hx : ev ρ x = .string a) (hy : ev ρ y = .string b) :
    (execOp (ev ρ) ⟨d, .binOp .eql t x y t2, ty, ps, af, g⟩).run P w = .ok (.value (.bool (decide (a = b)))) w := x_binS hx hy (by simp only [Op.stringOp, Sem.run_pure, str_eq])
theorem x_neqS {t t2 : TypeId} {x y : Operand} {a b : ByteArray} (hx : ev ρ x = .string a) (hy : ev ρ y = .string b) :
    (execOp (ev ρ) ⟨d, .binOp .neq t x y t2, ty, ps, af, g⟩).run P w = .ok (.value (.bool (decide (a ≠ b)))) w := x_binS hx hy (by simp only [Op.stringOp, Sem.run_pure, str_eq]; by_cases h : a = b <;> simp [h])
end
end KE
