/-
  The engine of this proof, for any program: operations that write, calls, maps. No condition.
-/
import Derived.Test.YtpoahelomhjnaaaKEe
set_option linter.unusedVariables false
set_option linter.unusedSimpArgs false
namespace KE
open Go Go.RowKit

section
variable {P : Program} {r : Option Nat} {N : Nat} {Q : QE} {ρ : Nat → Value} {ds : List Nat} {w : World} {ops : Array Oper} {rest : List Oper} {o : Oper} {v : Value}
theorem WL.rd (hg : o.guard = none) (hd : okD N o.dst = true) (hp : plainOp o = true) (hx : (execOp (ev ρ) o).run P w = .ok (.value v) w) (k : WL P r N ops Q rest (updO ρ o.dst v) ds w) : WL P r N ops Q (o :: rest) ρ ds w := by
  refine WL.st hg hd ⟨?_, ?_⟩
  · cases ho : o.op <;> simp_all [plainOp]
  · rw [hx]; exact k
theorem RS.of (hg : o.guard = none) (hp : plainOp o = true) (hx : (execOp (ev ρ) o).run P w = .ok (.value v) w) : RS P ops o ρ w v := ⟨hp, .inl ⟨by simp [Region.wanted, hg], hx⟩⟩
theorem RS.no (hp : plainOp o = true) (hw : Region.wanted o (yieldE ops ρ) = false) : RS P ops o ρ w undef := ⟨hp, .inr ⟨hw, rfl⟩⟩
theorem RS.yes (hp : plainOp o = true) (hw : Region.wanted o (yieldE ops ρ) = true) (hx : (execOp (ev ρ) o).run P w = .ok (.value v) w) : RS P ops o ρ w v := ⟨hp, .inl ⟨hw, hx⟩⟩
theorem WK.rd {eff : List Nat} {bef : List (List Nat)} {i : Nat} {can pend : List Nat} (ho : ops[i]? = some o) (he : eff.contains i = false) (hs : RS P ops o ρ w v) (k : WK P r N ops eff bef Q can (i :: pend) (updO ρ o.dst v) ds w) : WK P r N ops eff bef Q (i :: can) pend ρ ds w := by
  unfold WK
  rw [ho]
  simp only [he, cond_false]
  exact ⟨v, hs, k⟩
theorem WK.ef {eff : List Nat} {bef : List (List Nat)} {i : Nat} {can pend : List Nat} (ho : ops[i]? = some o) (he : eff.contains i = true) (hw : Region.wanted o (yieldE ops ρ) = true)
    (k : St P o ρ w fun v w' => Stab P ops (bef.getD i []) pend (updO ρ o.dst v) w' ∧ WK P r N ops eff bef Q can pend (updO ρ o.dst v) ds w') : WK P r N ops eff bef Q (i :: can) pend ρ ds w := by
  unfold WK
  rw [ho]
  simp only [he, cond_true]
  exact .inl ⟨hw, k⟩
theorem WK.un {eff : List Nat} {bef : List (List Nat)} {i : Nat} {can pend : List Nat} (ho : ops[i]? = some o) (he : eff.contains i = true) (hw : Region.wanted o (yieldE ops ρ) = false)
    (hs : Stab P ops (bef.getD i []) pend (updO ρ o.dst undef) w) (k : WK P r N ops eff bef Q can pend (updO ρ o.dst undef) ds w) : WK P r N ops eff bef Q (i :: can) pend ρ ds w := by
  unfold WK
  rw [ho]
  simp only [he, cond_true]
  exact .inr ⟨hw, hs, k⟩
end

section
variable {P : Program} {w : World} {ρ : Nat → Value} {d : Option Tmp} {ty : TypeId} {ps : String} {af : Array Edge} {g : Option (Nat × Bool)} {s : Sy} {L : List Hp} {K : Value → World → Prop}
theorem s_alloc {t : TypeId} {z : Value} {sz by_ : Nat} (hy : Ty P t z sz by_) (H : Hd s w L) (k : ∀ b w', Hd s w' (pt b (.cells z.cells t) :: L) → K (.pointer (some ⟨b, 0, none⟩)) w') : St P ⟨d, .alloc t, ty, ps, af, g⟩ ρ w K := by
  refine ⟨trivial, ?_⟩
  have : (execOp (ev ρ) ⟨d, .alloc t, ty, ps, af, g⟩).run P w = .ok (.value (.pointer (some ⟨w.heap.size, 0, none⟩))) (w.alloc (.cells z.cells t)) := by
    simp [execOp, Instr.alloc, Sem.run_bind, hy.zero, newVar, newRow, Result.andThen, Sem.run_pure]
  rw [this]; exact k _ _ (H.alloc _)
theorem s_box {t : TypeId} {x : Operand} {v : Value} (hx : ev ρ x = v) (H : Hd s w L) (k : ∀ b w', Hd s w' (pt b (.cells v.cells t) :: L) → K (.pointer (some ⟨b, 0, none⟩)) w') : St P ⟨d, .box t x, ty, ps, af, g⟩ ρ w K := by
  refine ⟨trivial, ?_⟩
  have : (execOp (ev ρ) ⟨d, .box t x, ty, ps, af, g⟩).run P w = .ok (.value (.pointer (some ⟨w.heap.size, 0, none⟩))) (w.alloc (.cells v.cells t)) := by
    simp [execOp, Instr.box, Sem.run_bind, newVar, newRow, Result.andThen, Sem.run_pure, hx]
  rw [this]; exact k _ _ (H.alloc _)
theorem s_makeMap {t : TypeId} (H : Hd s w L) (k : ∀ b w', Hd s w' (pt b (.map #[] 0) :: L) → K (.map (some b)) w') : St P ⟨d, .makeMap t none, ty, ps, af, g⟩ ρ w K := by
  refine ⟨trivial, ?_⟩
  have : (execOp (ev ρ) ⟨d, .makeMap t none, ty, ps, af, g⟩).run P w = .ok (.value (.map (some w.heap.size))) (w.alloc (.map #[] 0)) := by
    simp [execOp, Instr.makeMap, Sem.run_bind, Result.andThen, Sem.run_pure]
  rw [this]; exact k _ _ (H.alloc _)
theorem s_store {t : TypeId} {a x : Operand} {b off : Nat} {cs : Array Value} {t0 : TypeId} {z v : Value} {by_ : Nat} (i : Nat) (hi : L[i]? = some (pt b (.cells cs t0 (0, 0)))) (hy : Ty P t z 1 by_) (ha : ev ρ a = .pointer (some ⟨b, off, none⟩)) (hx : ev ρ x = v) (h1 : oneC v = true) (hoff : off < cs.size)
    (H : Hd s w L) (k : ∀ w', Hd s w' (L.set i (pt b (.cells (cs.setIfInBounds off v) t0))) → K undef w') : St P ⟨d, .store t a x, ty, ps, af, g⟩ ρ w K := by
  refine ⟨trivial, ?_⟩
  have hcell := H.cell (off := off) i hi (Array.getElem?_eq_getElem hoff)
  have hfree : w.frozen? ⟨b, off, none⟩ = false := free_of (H.obj i hi)
  have hcs : v.cells = #[v] := by cases v <;> first | rfl | (simp [Value.oneCell'] at h1)
  have : (execOp (ev ρ) ⟨d, .store t a x, ty, ps, af, g⟩).run P w = .ok .skip (w.setCell ⟨b, off, none⟩ v) := by
    have hst := run_store (P := P) hcell hfree h1
    simp [execOp, Instr.storeAt, Instr.sureAddr, ha, hx, Sem.run_bind, Result.andThen, Sem.run_pure, storeVar, hy.size, hcs, storeCells, add_plain, hst]
  rw [this]; exact k _ (H.setCell i hi v)
/-- a struct is stored whole -/
theorem s_storeA {t : TypeId} {a x : Operand} {b off : Nat} {cs : Array Value} {t0 : TypeId} {z : Value} {vs : List Value} {sz by_ : Nat} (i : Nat) (hi : L[i]? = some (pt b (.cells cs t0 (0, 0)))) (hy : Ty P t z sz by_) (ha : ev ρ a = .pointer (some ⟨b, off, none⟩)) (hx : ev ρ x = .agg vs.toArray) (hn : vs.length = sz) (h1 : ∀ v ∈ vs, oneC v = true) (hoff : off + sz ≤ cs.size)
    (H : Hd s w L) (k : ∀ w', Hd s w' (L.set i (pt b (.cells (cs.toList.take off ++ vs ++ cs.toList.drop (off + vs.length)).toArray t0))) → K undef w') : St P ⟨d, .store t a x, ty, ps, af, g⟩ ρ w K := by
  refine ⟨trivial, ?_⟩
  have hst := run_storeCells_at P b off t0 vs 0 cs w (H.obj i hi) (by rw [hn]; omega) h1
  simp only [Nat.add_zero] at hst
  have : (execOp (ev ρ) ⟨d, .store t a x, ty, ps, af, g⟩).run P w = .ok .skip (w.setRow b (cs.toList.take off ++ vs ++ cs.toList.drop (off + vs.length)).toArray) := by
    simp [execOp, Instr.storeAt, Instr.sureAddr, ha, hx, Sem.run_bind, Result.andThen, Sem.run_pure, storeVar, hy.size, Value.cells, hn, hst] at *
  rw [this]
  exact k _ (H.change i hi (setRow_heap w b cs _ t0 (0, 0) (H.obj i hi)) (fun k hk => setRow_other w b k _ hk) ⟨rfl, rfl, rfl⟩)
theorem s_buildSlice {t e : TypeId} {n : Nat} {parts : Array (Nat × Operand)} {z : Value} {sz by_ : Nat} {cells : Array Value} (ht : P.underlying t = some (.slice e)) (hy : Ty P e z sz by_) (hn : n * sz ≠ 0) (hn2 : n * sz ≤ 16777216)
    (hp : Instr.fill (fun i => some (i * sz, sz)) ((Array.range (n * sz)).map (z.cells[· % z.cells.size]!)) (parts.map fun (i, x) => (i, ev ρ x)).toList = some cells) (hc : cells.size = n * sz)
    (H : Hd s w L) (k : ∀ b w', Hd s w' (Sl (.slice (some ⟨b, 0, none⟩) n n) e sz n cells.toList :: L) → K (.slice (some ⟨b, 0, none⟩) n n) w') : St P ⟨d, .buildSlice t n parts, ty, ps, af, g⟩ ρ w K := by
  refine ⟨trivial, ?_⟩
  have : (execOp (ev ρ) ⟨d, .buildSlice t n parts, ty, ps, af, g⟩).run P w = .ok (.value (.slice (some ⟨w.heap.size, 0, none⟩) n n)) (w.alloc (.cells cells e)) := by
    have e1 : ¬ (2 ^ 24 < n * sz) := by omega
    simp only [execOp, Instr.buildSlice, Sem.run_bind, run_under ht, Result.andThen, Sem.run_pure, hy.size]
    rw [if_neg (by omega), if_neg hn]
    simp only [Sem.run_bind, hy.zero, Result.andThen, Sem.run_pure]
    rw [hp]
    simp [newRow, Sem.run_bind, Result.andThen, Sem.run_pure]
  rw [this]
  refine k _ _ (Hd.weak (H.alloc _) fun h hp => ⟨⟨by simp [hc], by have := Nat.le_of_dvd (Nat.pos_of_ne_zero hn) (Nat.dvd_mul_right n sz); omega⟩, .inr ⟨(w.heap.size, 0, n, cells), ⟨rfl, Nat.le_refl _, by simp [hc], ?_⟩, hp⟩⟩)
  intro j u hj
  simpa using hj
theorem s_append {t e : TypeId} {a x : Operand} {z : Value} {sz by_ : Nat} {ats : Array TypeId} (ht : P.underlying t = some (.slice e)) (hy : Ty P e z sz by_) (hzs : z.cells.size = sz) (hsz : 0 < sz) (hby : 0 < by_) (hats : ats = #[t, t])
    (i : Nat) {v y : Value} {n m : Nat} {cs news : List Value} (hi : L[i]? = some (Sl v e sz n cs)) (ha : ev ρ a = v) (hxe : ev ρ x = y) (hx : RdC w y sz m news) (h1 : ∀ u ∈ news, oneC u = true) (hb : (n + m) * by_ ≤ 140737488355328)
    (H : Hd s w L) (k : ∀ v' w', Hd s w' (L.set i (Sl v' e sz (n + m) (cs ++ news))) → K v' w') : St P ⟨d, .call { callee := .builtin .append, args := #[a, x], argTypes := ats }, ty, ps, af, g⟩ ρ w K := by
  subst hats
  obtain ⟨v', w', hrun, H', _⟩ := run_append (ty := ty) ht hy hzs hsz hby H i hi hx h1 hb
  refine ⟨trivial, ?_⟩
  have : (execOp (ev ρ) ⟨d, .call { callee := .builtin .append, args := #[a, x], argTypes := #[t, t] }, ty, ps, af, g⟩).run P w = .ok (.value v') w' := by
    simp [execOp, resolve, invoke, builtin, ha, hxe, hrun, Sem.run_bind, Result.andThen, Sem.run_pure]
  rw [this]
  exact k _ _ H'
/-! calls -/
def Cal (P : Program) (f : FuncId) : Prop := ∃ fn, P.funcs[f]? = some fn ∧ fn.body.isNone = false ∧ (fn.name == "runtime.NumGoroutine") = false
theorem run_callFunc {f : FuncId} {args : Array Value} (h : Cal P f) : (callFunc f args).run P w = .ok (.enter f args) w := by
  obtain ⟨fn, h1, h2, h3⟩ := h
  simp only [callFunc, Sem.run_bind, run_program, Result.andThen, h1, h2, h3, Bool.false_eq_true, if_false, Sem.run_pure]
theorem s_call {f : FuncId} {args : Array Operand} {ats : Array TypeId} {R : Value → World → Prop} (hc : Cal P f) (h : CC P f (args.map (ev ρ)) w R) (k : ∀ v w', R v w' → K v w') : St P ⟨d, .call { callee := .value (.func f), args := args, argTypes := ats }, ty, ps, af, g⟩ ρ w K := by
  refine ⟨trivial, ?_⟩
  have : (execOp (ev ρ) ⟨d, .call { callee := .value (.func f), args := args, argTypes := ats }, ty, ps, af, g⟩).run P w = .ok (.enter f (args.map (ev ρ))) w := by
    simp [execOp, resolve, Deferred.ofValue, ev, invoke, Sem.run_bind, Result.andThen, Sem.run_pure, run_callFunc hc]
  rw [this]
  exact h.mono k
/-- a call of a function value -/
theorem s_callv {x : Operand} {f : FuncId} {args : Array Operand} {ats : Array TypeId} {c1 c2 : Array Value} {R : Value → World → Prop} (hx : ev ρ x = .func (.func f) c1 c2) (hc : Cal P f) (h : CC P f (c1 ++ args.map (ev ρ) ++ c2) w R) (k : ∀ v w', R v w' → K v w') : St P ⟨d, .call { callee := .value x, args := args, argTypes := ats }, ty, ps, af, g⟩ ρ w K := by
  refine ⟨trivial, ?_⟩
  have : (execOp (ev ρ) ⟨d, .call { callee := .value x, args := args, argTypes := ats }, ty, ps, af, g⟩).run P w = .ok (.enter f (c1 ++ args.map (ev ρ) ++ c2)) w := by
    simp [execOp, resolve, Deferred.ofValue, hx, invoke, Sem.run_bind, Result.andThen, Sem.run_pure, run_callFunc hc]
  rw [this]
  exact h.mono k
theorem s_yield {x : Operand} {l : Nat} {args : Array Operand} {ats : Array TypeId} {R : Value → World → Prop} (hx : ev ρ x = .func (.yield l) #[] #[]) (h : YY P l (args.map (ev ρ)) w R) (k : ∀ v w', R v w' → K v w') : St P ⟨d, .call { callee := .value x, args := args, argTypes := ats }, ty, ps, af, g⟩ ρ w K := by
  refine ⟨trivial, ?_⟩
  obtain ⟨fn, tmps, asg, body, h1, h2⟩ := h
  have : (execOp (ev ρ) ⟨d, .call { callee := .value x, args := args, argTypes := ats }, ty, ps, af, g⟩).run P w = .ok (.round l fn tmps asg body) w := by
    simp [execOp, resolve, Deferred.ofValue, hx, invoke, Sem.run_bind, Result.andThen, Sem.run_pure, h1]
  rw [this]
  exact RoundIn.mono h2 fun e w' ⟨v, e1, r⟩ => ⟨v, e1, k _ _ r⟩
end

/-! ### maps -/
theorem ba_beq (a b : ByteArray) : (a == b) = decide (a = b) := by
  have e : (a == b) = (a.data == b.data) := by cases a; cases b; rfl
  rw [e]
  by_cases h : a = b
  · subst h; simp
  · rw [decide_eq_false h]
    cases e : (a.data == b.data) with
    | false => rfl
    | true => exact absurd (ByteArray.ext (by simpa using e)) h
theorem sb_str (n : Nat) (a : ByteArray) : Instr.sameBits n (.string a) (.string a) = true := by
  cases n <;> simp only [Instr.sameBits, ba_beq, decide_true]
theorem sb_int (n : Nat) (k : IntKind) (a : Int) : Instr.sameBits n (.int k a) (.int k a) = true := by
  cases n <;> simp [Instr.sameBits]
theorem ck_str {P : Program} {kt : TypeId} (h : P.underlying kt = some .string) (n : Nat) (e : Bool) (a : ByteArray) (w : World) : (Instr.checkKey e (n + 1) kt (.string a)).run P w = .ok () w := by
  simp only [Instr.checkKey, Sem.run_bind, run_under h, Result.andThen, Sem.run_pure]
theorem ck_int {P : Program} {kt : TypeId} {k : IntKind} (h : P.underlying kt = some (.int k)) (n : Nat) (e : Bool) (a : Int) (w : World) : (Instr.checkKey e (n + 1) kt (.int k a)).run P w = .ok () w := by
  simp only [Instr.checkKey, Sem.run_bind, run_under h, Result.andThen, Sem.run_pure]
structure KT (P : Program) (kt : TypeId) (κ : Type) [DecidableEq κ] where
  kv : κ → Value
  kd : TypeDesc
  und : P.underlying kt = some kd
  same : ∀ a b, Instr.sameNow kd (kv a) (kv b) = some (decide (a = b))
  bits : ∀ a, Instr.sameBits 10000 (kv a) (kv a) = true
  chk : ∀ (e : Bool) (a : κ) (w : World), (Instr.checkKey e 10000 kt (kv a)).run P w = .ok () w
def ktS (P : Program) (kt : TypeId) (h : P.underlying kt = some .string) : KT P kt ByteArray where
  kv := .string
  kd := .string
  und := h
  same := fun a b => by
    simp only [Instr.sameNow, ba_beq]
  bits := fun a => sb_str _ a
  chk := fun e a w => ck_str h 9999 e a w
def ktI (P : Program) (kt : TypeId) (k : IntKind) (h : P.underlying kt = some (.int k)) : KT P kt Int where
  kv := .int k
  kd := .int k
  und := h
  same := fun a b => by
    simp only [Instr.sameNow, if_true]
    congr 1
  bits := fun a => sb_int _ k a
  chk := fun e a w => ck_int h 9999 e a w

section
variable {κ : Type} [DecidableEq κ]
/-- the entries of a map, in the order in which they lie -/
def MV (kv : κ → Value) (es : Array MapEntry) (l : List (κ × Value)) : Prop := es.toList.map (fun e => (e.key, e.val)) = l.map fun p => (kv p.1, p.2)
def Stamps (es : Array MapEntry) (cl : Nat) : Prop := (es.toList.map (·.born)).Nodup ∧ ∀ e ∈ es.toList, e.born < cl
def alook (k : κ) : List (κ × Value) → Option Value
  | [] => none
  | p :: l => if k = p.1 then some p.2 else alook k l
def aset (k : κ) (v : Value) : List (κ × Value) → List (κ × Value)
  | [] => [(k, v)]
  | p :: l => if k = p.1 then (k, v) :: l else p :: aset k v l
def adel (k : κ) : List (κ × Value) → List (κ × Value)
  | [] => []
  | p :: l => if k = p.1 then l else p :: adel k l
def aidx (k : κ) : List (κ × Value) → Nat → Option (Nat × Value)
  | [], _ => none
  | p :: l, i => if k = p.1 then some (i, p.2) else aidx k l (i + 1)
def Mp {P : Program} {kt : TypeId} (T : KT P kt κ) (b : Nat) (l : List (κ × Value)) : Hp := fun h => ∃ q : Array MapEntry × Nat, (MV T.kv q.1 l ∧ Stamps q.1 q.2) ∧ pt b (.map q.1 q.2) h
variable {P : Program} {kt : TypeId} {T : KT P kt κ} {w : World}
theorem findNow_aidx (k : κ) : ∀ (es : List MapEntry) (l : List (κ × Value)) (i : Nat), es.map (fun e => (e.key, e.val)) = l.map (fun p => (T.kv p.1, p.2)) → Instr.findNow T.kd (T.kv k) es i = some (aidx k l i)
  | [], [], i, _ => rfl
  | [], _ :: _, i, h => by simp at h
  | _ :: _, [], i, h => by simp at h
  | e :: es, p :: l, i, h => by
    simp only [List.map_cons, List.cons.injEq, Prod.mk.injEq] at h
    obtain ⟨⟨h1, h2⟩, h3⟩ := h
    simp only [Instr.findNow, h1, T.same]
    by_cases hk : k = p.1
    · simp [hk, aidx, h2]
    · simp only [hk, decide_false, aidx, if_false]
      exact findNow_aidx k es l (i + 1) h3
theorem run_findKey {es : Array MapEntry} {l : List (κ × Value)} (h : MV T.kv es l) (k : κ) : (Instr.findKey kt (T.kv k) es.toList).run P w = .ok (aidx k l 0) w := by
  simp [Instr.findKey, Sem.run_bind, run_under T.und, Result.andThen, findNow_aidx (T := T) k es.toList l 0 h, Sem.run_pure]
theorem aidx_alook (k : κ) : ∀ (l : List (κ × Value)) (i : Nat), (aidx k l i).map (·.2) = alook k l
  | [], _ => rfl
  | p :: l, i => by
    simp only [aidx, alook]
    split
    · rfl
    · exact aidx_alook k l (i + 1)
theorem aidx_some {k : κ} : ∀ {l : List (κ × Value)} {i j : Nat} {v : Value}, aidx k l i = some (j, v) → i ≤ j ∧ l[j - i]? = some (k, v) ∧ (∀ v', l.set (j - i) (k, v') = aset k v' l) ∧ l.eraseIdx (j - i) = adel k l
  | [], i, j, v, h => by simp [aidx] at h
  | p :: l, i, j, v, h => by
    simp only [aidx] at h
    split at h
    · rename_i hk
      cases h
      refine ⟨Nat.le_refl _, by simp [hk], fun v' => by simp [aset, hk], by simp [adel, hk]⟩
    · rename_i hk
      obtain ⟨h1, h2, h3, h4⟩ := aidx_some h
      have e : j - i = (j - (i + 1)) + 1 := by omega
      refine ⟨by omega, by rw [e]; simpa using h2, fun v' => by rw [e]; simp [aset, hk, h3], by rw [e]; simp [adel, hk, h4]⟩
theorem aidx_none {k : κ} : ∀ {l : List (κ × Value)} {i : Nat}, aidx k l i = none → alook k l = none ∧ (∀ v, aset k v l = l ++ [(k, v)]) ∧ adel k l = l
  | [], _, _ => ⟨rfl, fun _ => rfl, rfl⟩
  | p :: l, i, h => by
    simp only [aidx] at h
    split at h
    · cases h
    · rename_i hk
      obtain ⟨h1, h2, h3⟩ := aidx_none h
      exact ⟨by simp [alook, hk, h1], fun v => by simp [aset, hk, h2], by simp [adel, hk, h3]⟩
/-- what a look-up answers -/
def lkV (c : Bool) (z : Value) : Option Value → Value
  | some v => bif c then .tuple #[v, .bool true] else v
  | none => bif c then .tuple #[z, .bool false] else z
variable {ρ : Nat → Value} {d : Option Tmp} {ty : TypeId} {ps : String} {af : Array Edge} {g : Option (Nat × Bool)} {s : Sy} {L : List Hp} {K : Value → World → Prop}
theorem x_lookup {t et : TypeId} {x y : Operand} {m : Nat} {es : Array MapEntry} {cl : Nat} {l : List (κ × Value)} {k : κ} {z : Value} {sz by_ : Nat} {c : Bool} (T : KT P kt κ) (ht : P.underlying t = some (.map kt et)) (hy : Ty P et z sz by_) (hx : ev ρ x = .map (some m)) (hk : ev ρ y = T.kv k) (hm : w.heap[m]? = some (.map es cl)) (hv : MV T.kv es l) :
    (execOp (ev ρ) ⟨d, .lookup t x y c, ty, ps, af, g⟩).run P w = .ok (.value (lkV c z (alook k l))) w := by
  simp only [execOp, Instr.lookup, Sem.run_bind, run_under ht, Result.andThen, hx, hk]
  simp only [getObj, Sem.run, hm, Sem.run_bind, Result.andThen, Sem.run_pure, T.chk, run_findKey (T := T) hv k]
  rw [← aidx_alook k l 0]
  cases aidx k l 0 with
  | none => cases c <;> simp [Sem.run_bind, hy.zero, Result.andThen, Sem.run_pure, lkV]
  | some p => cases c <;> simp [Sem.run_bind, Result.andThen, Sem.run_pure, lkV]
theorem x_lookupNil {t et : TypeId} {x y : Operand} {k : κ} {z : Value} {sz by_ : Nat} {c : Bool} (T : KT P kt κ) (ht : P.underlying t = some (.map kt et)) (hy : Ty P et z sz by_) (hx : ev ρ x = .map none) (hk : ev ρ y = T.kv k) :
    (execOp (ev ρ) ⟨d, .lookup t x y c, ty, ps, af, g⟩).run P w = .ok (.value (lkV c z none)) w := by
  simp only [execOp, Instr.lookup, Sem.run_bind, run_under ht, Result.andThen, hx, hk, Sem.run_pure, T.chk]
  have := run_findKey (P := P) (w := w) (T := T) (es := #[]) (l := []) rfl k
  simp only [this, aidx]
  cases c <;> simp [Sem.run_bind, hy.zero, Result.andThen, Sem.run_pure, lkV]
theorem Mp.obj {b : Nat} {l : List (κ × Value)} (T : KT P kt κ) (H : Hd s w L) (i : Nat) (hi : L[i]? = some (Mp T b l)) : ∃ es cl, w.heap[b]? = some (.map es cl) ∧ MV T.kv es l := by
  obtain ⟨h, h1, ⟨es, cl⟩, h2, h3⟩ := H.fact_at i hi
  exact ⟨es, cl, h1 _ _ h3, h2.1⟩
omit [DecidableEq κ] in
theorem MV.size {kv : κ → Value} {es : Array MapEntry} {l : List (κ × Value)} (h : MV kv es l) : es.size = l.length := by
  have := congrArg List.length h
  simpa using this
theorem Mp.made {b : Nat} (T : KT P kt κ) : ∀ h, pt b (.map #[] 0) h → Mp T b [] h := fun h hp => ⟨(#[], 0), ⟨rfl, by simp [Stamps]⟩, hp⟩
theorem s_mapUpdate {t et : TypeId} {x y u : Operand} {b : Nat} {l : List (κ × Value)} {k : κ} {v : Value} (T : KT P kt κ) (ht : P.underlying t = some (.map kt et)) (i : Nat) (hi : L[i]? = some (Mp T b l)) (hx : ev ρ x = .map (some b)) (hk : ev ρ y = T.kv k) (hu : ev ρ u = v)
    (H : Hd s w L) (kk : ∀ w', Hd s w' (L.set i (Mp T b (aset k v l))) → K undef w') : St P ⟨d, .mapUpdate t x y u, ty, ps, af, g⟩ ρ w K := by
  refine ⟨trivial, ?_⟩
  obtain ⟨⟨es, cl⟩, ⟨hv, hs⟩, H1⟩ := Hd.opn (φ := fun q : Array MapEntry × Nat => MV T.kv q.1 l ∧ Stamps q.1 q.2) (q := fun q => pt b (.map q.1 q.2)) (H.pick i hi) (fun x hx => hx)
  have hm := H1.obj 0 rfl
  cases hf : aidx k l 0 with
  | none =>
    obtain ⟨h1, h2, h3⟩ := aidx_none hf
    have : (execOp (ev ρ) ⟨d, .mapUpdate t x y u, ty, ps, af, g⟩).run P w = .ok .skip (w.putObj b (.map (es.push { key := T.kv k, val := v, born := cl }) (cl + 1))) := by
      simp only [execOp, Instr.mapUpdate, Sem.run_bind, run_under ht, Result.andThen, hx, hk, hu]
      simp only [getObj, Sem.run, hm, Sem.run_bind, Result.andThen, Sem.run_pure, T.chk, run_findKey (T := T) hv k, hf]
      simp [setObj, Sem.run, hm, World.putObj, Result.andThen, Sem.run_pure]
    rw [this]
    refine kk _ (Hd.back hi (Hd.weak (H1.putObj 0 rfl _) fun h hp => ⟨(es.push ⟨T.kv k, v, cl⟩, cl + 1), ⟨?_, ?_, ?_⟩, hp⟩))
    · show List.map _ (es.push _).toList = _
      rw [h2, List.map_append, Array.toList_push, List.map_append, show es.toList.map (fun e => (e.key, e.val)) = _ from hv]; rfl
    · show (List.map _ (es.push _).toList).Nodup
      rw [Array.toList_push, List.map_append]
      refine List.nodup_append.2 ⟨hs.1, by simp, ?_⟩
      intro a ha c hc e
      simp at hc; subst hc; subst e
      obtain ⟨e, he, h5⟩ := List.mem_map.1 ha
      have := hs.2 e he
      omega
    · show ∀ e ∈ (es.push ⟨T.kv k, v, cl⟩).toList, e.born < cl + 1
      intro e he
      rw [Array.toList_push] at he
      rcases List.mem_append.1 he with he | he
      · have := hs.2 e he; omega
      · simp at he; subst he; simp
  | some jv =>
    obtain ⟨j, v0⟩ := jv
    obtain ⟨_, h2, h3, h4⟩ := aidx_some hf
    simp only [Nat.sub_zero] at h2 h3 h4
    have hsz := MV.size hv
    have hj : j < es.size := by rw [hsz]; exact (List.getElem?_eq_some_iff.1 h2).1
    have hkey : (es[j]).key = T.kv k ∧ (es[j]).val = v0 := by
      have e1 : (es.toList.map (fun e => (e.key, e.val)))[j]? = (l.map fun p => (T.kv p.1, p.2))[j]? := by rw [show es.toList.map (fun e => (e.key, e.val)) = _ from hv]
      rw [List.getElem?_map, List.getElem?_map, h2, Array.getElem?_toList, Array.getElem?_eq_getElem hj] at e1
      simpa using e1
    have hst : (Instr.keyThatStays (T.kv k) (T.kv k)).run P w = .ok (T.kv k) w := by
      simp [Instr.keyThatStays, T.bits, Sem.run_pure]
    have hrun : (execOp (ev ρ) ⟨d, .mapUpdate t x y u, ty, ps, af, g⟩).run P w = .ok .skip (w.putObj b (.map (es.modify j fun e => { e with key := T.kv k, val := v }) cl)) := by
      simp only [execOp, Instr.mapUpdate, Sem.run_bind, run_under ht, Result.andThen, hx, hk, hu]
      simp only [getObj, Sem.run, hm, Sem.run_bind, Result.andThen, Sem.run_pure, T.chk, run_findKey (T := T) hv k, hf]
      rw [Array.getElem?_eq_getElem hj]
      simp only [Option.map_some, Option.getD_some, hkey.1, hst]
      simp [setObj, Sem.run, hm, World.putObj, Result.andThen, Sem.run_pure]
    rw [hrun]
    have hml : (es.modify j fun e => { e with key := T.kv k, val := v }).toList = es.toList.set j { es[j] with key := T.kv k, val := v } := by
      apply List.ext_getElem?
      intro q
      rw [Array.getElem?_toList, Array.getElem?_modify, List.getElem?_set, Array.getElem?_toList]
      by_cases e : j = q
      · subst e; simp [hj]
      · simp [e]
    refine kk _ (Hd.back hi (Hd.weak (H1.putObj 0 rfl _) fun h hp => ⟨(es.modify j fun e => { e with key := T.kv k, val := v }, cl), ⟨?_, ?_, ?_⟩, hp⟩))
    · show List.map _ (es.modify j _).toList = _
      rw [hml, List.map_set, ← h3, List.map_set, show es.toList.map (fun e => (e.key, e.val)) = _ from hv]
    · have : (es.toList.set j { es[j] with key := T.kv k, val := v }).map (·.born) = es.toList.map (·.born) := by
        rw [List.map_set]
        apply List.ext_getElem?
        intro q
        rw [List.getElem?_set]
        split
        · rename_i e; subst e; simp [hj]
        · rfl
      show (List.map _ (es.modify j fun e => { e with key := T.kv k, val := v }).toList).Nodup
      rw [hml, this]; exact hs.1
    · show ∀ e ∈ (es.modify j fun e => { e with key := T.kv k, val := v }).toList, e.born < cl
      intro e he
      rw [hml] at he
      rcases List.mem_or_eq_of_mem_set he with he | rfl
      · exact hs.2 e he
      · exact hs.2 es[j] (by simp)
end
end KE
