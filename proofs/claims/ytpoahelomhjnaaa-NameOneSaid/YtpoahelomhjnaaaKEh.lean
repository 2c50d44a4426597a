/-
  The engine of this proof, for any program: results, guards, old memory. No condition.
-/
import Derived.Test.YtpoahelomhjnaaaKEg
import Derived.KernelRfl
set_option linter.unusedVariables false
set_option linter.unusedSimpArgs false
namespace KE
open Go Go.RowKit

theorem Ty.of {P : Program} {t : TypeId} {z : Value} {sz b : Nat} (h : (P.info? t).map (fun i => (i.zero, i.size, i.bytes)) = some (some z, sz, b)) : Ty P t z sz b := by
  cases hi : P.info? t with
  | none => rw [hi] at h; cases h
  | some i => rw [hi] at h; simp at h; exact ⟨i, hi, h.1, h.2.1, h.2.2⟩
/-! ends -/
section
variable {P : Program} {fn : Func} {R : Value → World → Prop} {ρ : Nat → Value} {w : World} {ds : List Nat} {s : Sy} {L : List Hp}
theorem RetM.none' (h : fn.results = #[]) (hR : R (.tuple #[]) w) : RetM P fn R ρ [] w := fun tmps ht => ⟨_, results_none h tmps P w, hR⟩
theorem RetM.one {t : Tmp} {v : Value} (h : fn.results = #[.tmp t]) (hv : ρ t = v) (hR : R v w) : RetM P fn R ρ [] w := fun tmps ht => ⟨_, results_tmp h tmps P w, by rw [ht, hv]; exact hR⟩
theorem RetM.two {t u : Tmp} {v1 v2 : Value} (h : fn.results = #[.tmp t, .tmp u]) (h1 : ρ t = v1) (h2 : ρ u = v2) (hR : R (.tuple #[v1, v2]) w) : RetM P fn R ρ [] w := fun tmps ht => ⟨_, results_tmp2 h tmps P w, by rw [ht, ht, h1, h2]; exact hR⟩
theorem RetM.mark {m i : Nat} (H : Hd s w L) (hi : L[i]? = some (pt m (.deferred (some [])))) (k : ∀ w', Hd s w' (L.set i (pt m (.deferred none))) → RetM P fn R ρ ds w') : RetM P fn R ρ (m :: ds) w :=
  ⟨H.obj i hi, k _ (H.putObj i hi _)⟩
/-- two results in boxes -/
theorem RetM.cell2 {a b : Tmp} {ta tb : TypeId} {pa pb : Addr} {da db : TypeDesc} {v1 v2 : Value} (h : fn.results = #[.cell a ta, .cell b tb]) (ha : ρ a = .pointer (some pa)) (hb : ρ b = .pointer (some pb)) (ua : P.underlying ta = some da) (ga : aggD da = false) (ub : P.underlying tb = some db) (gb : aggD db = false)
    (ca : w.cell? pa = some v1) (cb : w.cell? pb = some v2) (hR : R (.tuple #[v1, v2]) w) : RetM P fn R ρ [] w := fun tmps ht => by
  refine ⟨_, ?_, hR⟩
  have h1 := ht a
  have h2 := ht b
  rw [ha] at h1
  rw [hb] at h2
  have e1 := run_loadVar1 (P := P) ua ga ca
  have e2 := run_loadVar1 (P := P) ub gb cb
  simp only [Array.getD_eq_getD_getElem?] at h1 h2
  simp [results, h, Sem.run_bind, h1, h2, asAddr, Result.andThen, Sem.run_pure, e1, e2]
theorem RetM.cell1 {a : Tmp} {ta : TypeId} {pa : Addr} {da : TypeDesc} {v1 : Value} (h : fn.results = #[.cell a ta]) (ha : ρ a = .pointer (some pa)) (ua : P.underlying ta = some da) (ga : aggD da = false)
    (ca : w.cell? pa = some v1) (hR : R v1 w) : RetM P fn R ρ [] w := fun tmps ht => by
  refine ⟨_, ?_, hR⟩
  have h1 := ht a
  rw [ha] at h1
  have e1 := run_loadVar1 (P := P) ua ga ca
  simp only [Array.getD_eq_getD_getElem?] at h1
  simp [results, h, Sem.run_bind, h1, asAddr, Result.andThen, Sem.run_pure, e1]
end
/-! steps, their places written out -/
section
variable {P : Program} {r : Option Nat} {N : Nat} {Q : QE} {ρ : Nat → Value} {ds : List Nat} {w : World} {ops : Array Oper} {rest : List Oper} {d : Nat} {op : Op} {ty : TypeId} {ps : String} {af : Array Edge} {g : Option (Nat × Bool)} {v : Value}
theorem ev_c {v : Value} : ev ρ (.const v) = v := rfl
/-- a reading -/
theorem l_rd (hd : Nat.blt d N = true) (hp : plainOp ⟨some d, op, ty, ps, af, none⟩ = true) (hx : (execOp (ev ρ) ⟨some d, op, ty, ps, af, none⟩).run P w = .ok (.value v) w) (k : WL P r N ops Q rest (upd ρ d v) ds w) : WL P r N ops Q (⟨some d, op, ty, ps, af, none⟩ :: rest) ρ ds w := WL.rd rfl hd hp hx k
theorem l_st (hd : Nat.blt d N = true) (h : St P ⟨some d, op, ty, ps, af, none⟩ ρ w fun v w' => WL P r N ops Q rest (upd ρ d v) ds w') : WL P r N ops Q (⟨some d, op, ty, ps, af, none⟩ :: rest) ρ ds w := WL.st rfl hd h
theorem l_no (h : St P ⟨none, op, ty, ps, af, none⟩ ρ w fun _ w' => WL P r N ops Q rest ρ ds w') : WL P r N ops Q (⟨none, op, ty, ps, af, none⟩ :: rest) ρ ds w := WL.st rfl rfl h
theorem l_gy (hw : Region.wanted ⟨some d, op, ty, ps, af, g⟩ (yieldE ops ρ) = true) (hd : Nat.blt d N = true) (hp : plainOp ⟨some d, op, ty, ps, af, g⟩ = true) (hx : (execOp (ev ρ) ⟨some d, op, ty, ps, af, g⟩).run P w = .ok (.value v) w) (k : WL P r N ops Q rest (upd ρ d v) ds w) : WL P r N ops Q (⟨some d, op, ty, ps, af, g⟩ :: rest) ρ ds w := by
  refine WL.guard_yes hd hw ⟨?_, ?_⟩
  · cases op <;> first | trivial | (simp [plainOp] at hp)
  · rw [hx]; exact k
theorem l_gst (hw : Region.wanted ⟨some d, op, ty, ps, af, g⟩ (yieldE ops ρ) = true) (hd : Nat.blt d N = true) (h : St P ⟨some d, op, ty, ps, af, g⟩ ρ w fun v w' => WL P r N ops Q rest (upd ρ d v) ds w') : WL P r N ops Q (⟨some d, op, ty, ps, af, g⟩ :: rest) ρ ds w := WL.guard_yes hd hw h
theorem l_gn (hw : Region.wanted ⟨some d, op, ty, ps, af, g⟩ (yieldE ops ρ) = false) (hd : Nat.blt d N = true) (k : WL P r N ops Q rest (upd ρ d undef) ds w) : WL P r N ops Q (⟨some d, op, ty, ps, af, g⟩ :: rest) ρ ds w := WL.guard_no hd hw k
theorem l_rdD {p : Prop} [Decidable p] (hd : Nat.blt d N = true) (hp : plainOp ⟨some d, op, ty, ps, af, none⟩ = true) (hx : (execOp (ev ρ) ⟨some d, op, ty, ps, af, none⟩).run P w = .ok (.value (.bool (decide p))) w) (ht : p → WL P r N ops Q rest (upd ρ d (.bool true)) ds w) (hf : ¬p → WL P r N ops Q rest (upd ρ d (.bool false)) ds w) : WL P r N ops Q (⟨some d, op, ty, ps, af, none⟩ :: rest) ρ ds w := by
  refine l_rd hd hp hx ?_
  by_cases h : p
  · rw [decide_eq_true h]; exact ht h
  · rw [decide_eq_false h]; exact hf h
theorem l_gyD {p : Prop} [Decidable p] (hw : Region.wanted ⟨some d, op, ty, ps, af, g⟩ (yieldE ops ρ) = true) (hd : Nat.blt d N = true) (hp : plainOp ⟨some d, op, ty, ps, af, g⟩ = true) (hx : (execOp (ev ρ) ⟨some d, op, ty, ps, af, g⟩).run P w = .ok (.value (.bool (decide p))) w) (ht : p → WL P r N ops Q rest (upd ρ d (.bool true)) ds w) (hf : ¬p → WL P r N ops Q rest (upd ρ d (.bool false)) ds w) : WL P r N ops Q (⟨some d, op, ty, ps, af, g⟩ :: rest) ρ ds w := by
  refine l_gy hw hd hp hx ?_
  by_cases h : p
  · rw [decide_eq_true h]; exact ht h
  · rw [decide_eq_false h]; exact hf h
variable {eff : List Nat} {bef : List (List Nat)} {i : Nat} {can pend : List Nat}
theorem k_rd (ho : ops[i]? = some ⟨some d, op, ty, ps, af, g⟩) (he : eff.contains i = false) (hs : RS P ops ⟨some d, op, ty, ps, af, g⟩ ρ w v) (k : WK P r N ops eff bef Q can (i :: pend) (upd ρ d v) ds w) : WK P r N ops eff bef Q (i :: can) pend ρ ds w := WK.rd ho he hs k
theorem k_st (ho : ops[i]? = some ⟨some d, op, ty, ps, af, g⟩) (he : eff.contains i = true) (hw : Region.wanted ⟨some d, op, ty, ps, af, g⟩ (yieldE ops ρ) = true)
    (k : St P ⟨some d, op, ty, ps, af, g⟩ ρ w fun v w' => Stab P ops (bef.getD i []) pend (upd ρ d v) w' ∧ WK P r N ops eff bef Q can pend (upd ρ d v) ds w') : WK P r N ops eff bef Q (i :: can) pend ρ ds w := WK.ef ho he hw k
theorem k_no (ho : ops[i]? = some ⟨none, op, ty, ps, af, g⟩) (he : eff.contains i = true) (hw : Region.wanted ⟨none, op, ty, ps, af, g⟩ (yieldE ops ρ) = true)
    (k : St P ⟨none, op, ty, ps, af, g⟩ ρ w fun _ w' => Stab P ops (bef.getD i []) pend ρ w' ∧ WK P r N ops eff bef Q can pend ρ ds w') : WK P r N ops eff bef Q (i :: can) pend ρ ds w := WK.ef ho he hw k
theorem k_un (ho : ops[i]? = some ⟨some d, op, ty, ps, af, g⟩) (he : eff.contains i = true) (hw : Region.wanted ⟨some d, op, ty, ps, af, g⟩ (yieldE ops ρ) = false)
    (hs : Stab P ops (bef.getD i []) pend (upd ρ d undef) w) (k : WK P r N ops eff bef Q can pend (upd ρ d undef) ds w) : WK P r N ops eff bef Q (i :: can) pend ρ ds w := WK.un ho he hw hs k
theorem k_unN (ho : ops[i]? = some ⟨none, op, ty, ps, af, g⟩) (he : eff.contains i = true) (hw : Region.wanted ⟨none, op, ty, ps, af, g⟩ (yieldE ops ρ) = false)
    (hs : Stab P ops (bef.getD i []) pend ρ w) (k : WK P r N ops eff bef Q can pend ρ ds w) : WK P r N ops eff bef Q (i :: can) pend ρ ds w := WK.un ho he hw hs k
theorem k_rdD {p : Prop} [Decidable p] (ho : ops[i]? = some ⟨some d, op, ty, ps, af, g⟩) (he : eff.contains i = false) (hw : Region.wanted ⟨some d, op, ty, ps, af, g⟩ (yieldE ops ρ) = true) (hp : plainOp ⟨some d, op, ty, ps, af, g⟩ = true) (hx : (execOp (ev ρ) ⟨some d, op, ty, ps, af, g⟩).run P w = .ok (.value (.bool (decide p))) w)
    (ht : p → WK P r N ops eff bef Q can (i :: pend) (upd ρ d (.bool true)) ds w) (hf : ¬p → WK P r N ops eff bef Q can (i :: pend) (upd ρ d (.bool false)) ds w) : WK P r N ops eff bef Q (i :: can) pend ρ ds w := by
  refine k_rd ho he (RS.yes hp hw hx) ?_
  by_cases h : p
  · rw [decide_eq_true h]; exact ht h
  · rw [decide_eq_false h]; exact hf h
end
/-! tests -/
section
variable {P : Program} {r : Option Nat} {N : Nat} {Q : QE} {ρ : Nat → Value} {ds : List Nat} {w : World} {ops : Array Oper} {rest : List Oper} {o : Oper} {d : Nat}
theorem WL.rdD {p : Prop} [Decidable p] (hg : o.guard = none) (hdd : o.dst = some d) (hd : Nat.blt d N = true) (hp : plainOp o = true) (hx : (execOp (ev ρ) o).run P w = .ok (.value (.bool (decide p))) w) (ht : p → WL P r N ops Q rest (upd ρ d (.bool true)) ds w) (hf : ¬p → WL P r N ops Q rest (upd ρ d (.bool false)) ds w) : WL P r N ops Q (o :: rest) ρ ds w := by
  refine WL.rd hg (by rw [hdd]; exact hd) hp hx ?_
  rw [hdd]
  by_cases h : p
  · rw [decide_eq_true h]; exact ht h
  · rw [decide_eq_false h]; exact hf h
/-- a guarded operation that is carried out -/
theorem wantY {j : Nat} {b : Bool} {t : Tmp} (hg : o.guard = some (j, b)) (hd : (ops[j]?).bind (·.dst) = some t) (hv : ρ t = .bool b) : Region.wanted o (yieldE ops ρ) = true := by
  simp [Region.wanted, hg, yieldE, hd, hv]
theorem wantN {j : Nat} {b : Bool} {t : Tmp} (hg : o.guard = some (j, b)) (hd : (ops[j]?).bind (·.dst) = some t) (hv : ρ t = .bool (!b)) : Region.wanted o (yieldE ops ρ) = false := by
  simp [Region.wanted, hg, yieldE, hd, hv]
theorem wantU {j : Nat} {b : Bool} {t : Tmp} (hg : o.guard = some (j, b)) (hd : (ops[j]?).bind (·.dst) = some t) (hv : ρ t = undef) : Region.wanted o (yieldE ops ρ) = false := by
  simp [Region.wanted, hg, yieldE, hd, hv, undef]
theorem WL.gy {v : Value} (hw : Region.wanted o (yieldE ops ρ) = true) (hd : okD N o.dst = true) (hp : plainOp o = true) (hx : (execOp (ev ρ) o).run P w = .ok (.value v) w) (k : WL P r N ops Q rest (updO ρ o.dst v) ds w) : WL P r N ops Q (o :: rest) ρ ds w := by
  refine WL.guard_yes hd hw ⟨?_, ?_⟩
  · cases ho : o.op <;> simp_all [plainOp]
  · rw [hx]; exact k
theorem WL.gyD {p : Prop} [Decidable p] (hw : Region.wanted o (yieldE ops ρ) = true) (hdd : o.dst = some d) (hd : Nat.blt d N = true) (hp : plainOp o = true) (hx : (execOp (ev ρ) o).run P w = .ok (.value (.bool (decide p))) w) (ht : p → WL P r N ops Q rest (upd ρ d (.bool true)) ds w) (hf : ¬p → WL P r N ops Q rest (upd ρ d (.bool false)) ds w) : WL P r N ops Q (o :: rest) ρ ds w := by
  refine WL.gy hw (by rw [hdd]; exact hd) hp hx ?_
  rw [hdd]
  by_cases h : p
  · rw [decide_eq_true h]; exact ht h
  · rw [decide_eq_false h]; exact hf h
theorem WK.rdD {p : Prop} [Decidable p] {eff : List Nat} {bef : List (List Nat)} {i : Nat} {can pend : List Nat} (ho : ops[i]? = some o) (he : eff.contains i = false) (hdd : o.dst = some d) (hw : Region.wanted o (yieldE ops ρ) = true) (hp : plainOp o = true) (hx : (execOp (ev ρ) o).run P w = .ok (.value (.bool (decide p))) w)
    (ht : p → WK P r N ops eff bef Q can (i :: pend) (upd ρ d (.bool true)) ds w) (hf : ¬p → WK P r N ops eff bef Q can (i :: pend) (upd ρ d (.bool false)) ds w) : WK P r N ops eff bef Q (i :: can) pend ρ ds w := by
  refine WK.rd ho he (RS.yes hp hw hx) ?_
  rw [hdd]
  by_cases h : p
  · rw [decide_eq_true h]; exact ht h
  · rw [decide_eq_false h]; exact hf h
theorem WC.cond1 {c : Operand} {x y : Code} (hc : ev ρ c = .bool true) (h : WC P r N x Q ρ ds w) : WC P r N (.cond c x y) Q ρ ds w := WC.cond true hc (fun _ => h) (fun h => by cases h)
theorem WC.cond0 {c : Operand} {x y : Code} (hc : ev ρ c = .bool false) (h : WC P r N y Q ρ ds w) : WC P r N (.cond c x y) Q ρ ds w := WC.cond false hc (fun h => by cases h) (fun _ => h)
/-- what is known between two pieces of code -/
theorem WC.cut {c : Code} (M : (Nat → Value) → List Nat → World → Prop) {K : (Nat → Value) → List Nat → World → Prop} (h : WC P r N c (thenE M Q) ρ ds w) (k : ∀ ρ ds w, M ρ ds w → K ρ ds w) : WC P r N c (thenE K Q) ρ ds w :=
  h.mono fun e ρ ds w q => by cases e <;> first | exact k _ _ _ q | exact q
end
section
variable {P : Program} {w : World} {ρ : Nat → Value} {d : Option Tmp} {ty : TypeId} {ps : String} {af : Array Edge} {g : Option (Nat × Bool)} {s : Sy} {L : List Hp} {K : Value → World → Prop}
theorem x_pick1 {c a b : Operand} {v : Value} (hc : ev ρ c = .bool true) (ha : ev ρ a = v) : (execOp (ev ρ) ⟨d, .pick c a b, ty, ps, af, g⟩).run P w = .ok (.value v) w := by
  subst ha; simp [execOp, hc, asBool, Sem.run_bind, Result.andThen, Sem.run_pure]
theorem x_pick0 {c a b : Operand} {v : Value} (hc : ev ρ c = .bool false) (hb : ev ρ b = v) : (execOp (ev ρ) ⟨d, .pick c a b, ty, ps, af, g⟩).run P w = .ok (.value v) w := by
  subst hb; simp [execOp, hc, asBool, Sem.run_bind, Result.andThen, Sem.run_pure]
theorem x_cmp {op : BinOp} {t t2 : TypeId} {x y : Operand} {a b : Value} {bb : Bool} (hx : ev ρ x = a) (hy : ev ρ y = b) (hg : (eqGuard op t x y a b).run P w = .ok () w) (hv : (binOp op t a b).run P w = .ok (.bool bb) w) : (execOp (ev ρ) ⟨d, .binOp op t x y t2, ty, ps, af, g⟩).run P w = .ok (.value (.bool bb)) w := by
  simp [execOp, hx, hy, Sem.run_bind, hg, hv, Result.andThen, Sem.run_pure]
theorem eql_ptr_nil {t e : TypeId} {a : Option Addr} (ht : P.underlying t = some (.pointer e)) : (Op.equal t (.pointer a) (.pointer none)).run P w = .ok a.isNone w := by
  have : ∀ n, (Op.equalIn (n + 1) t (.pointer a) (.pointer none)).run P w = .ok a.isNone w := fun n => by
    cases a <;> simp [Op.equalIn, Sem.run_bind, run_under ht, Result.andThen, Sem.run_pure]
  exact this 9999
theorem eql_map_nil {t k e : TypeId} {a : Option Nat} (ht : P.underlying t = some (.map k e)) : (Op.equal t (.map a) (.map none)).run P w = .ok a.isNone w := by
  have : ∀ n, (Op.equalIn (n + 1) t (.map a) (.map none)).run P w = .ok a.isNone w := fun n => by
    cases a <;> simp [Op.equalIn, Sem.run_bind, run_under ht, Result.andThen, Sem.run_pure]
  exact this 9999
theorem x_neqPN {t t2 e : TypeId} {x : Operand} {a : Option Addr} (ht : P.underlying t = some (.pointer e)) (hx : ev ρ x = .pointer a) : (execOp (ev ρ) ⟨d, .binOp .neq t x (.const (.pointer none)) t2, ty, ps, af, g⟩).run P w = .ok (.value (.bool a.isSome)) w := by
  refine x_cmp (b := .pointer none) hx rfl (by simp [eqGuard, Sem.run_pure]) ?_
  have := eql_ptr_nil (P := P) (w := w) (a := a) ht
  cases a <;> simp [binOp, Sem.run_bind, this, Result.andThen, Sem.run_pure]
theorem x_eqlPN {t t2 e : TypeId} {x : Operand} {a : Option Addr} (ht : P.underlying t = some (.pointer e)) (hx : ev ρ x = .pointer a) : (execOp (ev ρ) ⟨d, .binOp .eql t x (.const (.pointer none)) t2, ty, ps, af, g⟩).run P w = .ok (.value (.bool a.isNone)) w := by
  refine x_cmp (b := .pointer none) hx rfl (by simp [eqGuard, Sem.run_pure]) ?_
  have := eql_ptr_nil (P := P) (w := w) (a := a) ht
  cases a <;> simp [binOp, Sem.run_bind, this, Result.andThen, Sem.run_pure]
theorem x_neqMN {t t2 k e : TypeId} {x : Operand} {a : Option Nat} (ht : P.underlying t = some (.map k e)) (hx : ev ρ x = .map a) : (execOp (ev ρ) ⟨d, .binOp .neq t x (.const (.map none)) t2, ty, ps, af, g⟩).run P w = .ok (.value (.bool a.isSome)) w := by
  refine x_cmp (b := .map none) hx rfl (by simp [eqGuard, Sem.run_pure]) ?_
  have := eql_map_nil (P := P) (w := w) (a := a) ht
  cases a <;> simp [binOp, Sem.run_bind, this, Result.andThen, Sem.run_pure]
theorem x_eqlMN {t t2 k e : TypeId} {x : Operand} {a : Option Nat} (ht : P.underlying t = some (.map k e)) (hx : ev ρ x = .map a) : (execOp (ev ρ) ⟨d, .binOp .eql t x (.const (.map none)) t2, ty, ps, af, g⟩).run P w = .ok (.value (.bool a.isNone)) w := by
  refine x_cmp (b := .map none) hx rfl (by simp [eqGuard, Sem.run_pure]) ?_
  have := eql_map_nil (P := P) (w := w) (a := a) ht
  cases a <;> simp [binOp, Sem.run_bind, this, Result.andThen, Sem.run_pure]
/-! calls, with their arguments as lists -/
theorem s_callL {f : FuncId} {args : List Operand} {ats : Array TypeId} {R : Value → World → Prop} (hc : Cal P f) (h : CC P f (args.map (ev ρ)).toArray w R) (k : ∀ v w', R v w' → K v w') : St P ⟨d, .call { callee := .value (.func f), args := args.toArray, argTypes := ats }, ty, ps, af, g⟩ ρ w K :=
  s_call hc (by simpa using h) k
theorem s_callvL {x : Operand} {f : FuncId} {args : List Operand} {ats : Array TypeId} {caps : List Value} {R : Value → World → Prop} (hx : ev ρ x = .func (.func f) #[] caps.toArray) (hc : Cal P f) (h : CC P f (args.map (ev ρ) ++ caps).toArray w R) (k : ∀ v w', R v w' → K v w') : St P ⟨d, .call { callee := .value x, args := args.toArray, argTypes := ats }, ty, ps, af, g⟩ ρ w K :=
  s_callv hx hc (by simpa using h) k
theorem s_yieldL {x : Operand} {l : Nat} {args : List Operand} {ats : Array TypeId} {R : Value → World → Prop} (hx : ev ρ x = .func (.yield l) #[] #[]) (h : YY P l (args.map (ev ρ)).toArray w R) (k : ∀ v w', R v w' → K v w') : St P ⟨d, .call { callee := .value x, args := args.toArray, argTypes := ats }, ty, ps, af, g⟩ ρ w K :=
  s_yield hx (by simpa using h) k
theorem s_st {t : TypeId} {a x : Operand} {b off : Nat} {cs : Array Value} {t0 : TypeId} {z v : Value} {by_ : Nat} (i : Nat) (hi : L[i]? = some (pt b (.cells cs t0 (0, 0)))) (hy : Ty P t z 1 by_) (ha : ev ρ a = .pointer (some ⟨b, off, none⟩)) (hx : ev ρ x = v) (h1 : oneC v = true) (hoff : Nat.blt off cs.toList.length = true)
    (H : Hd s w L) (k : ∀ w', Hd s w' (L.set i (pt b (.cells (cs.toList.set off v).toArray t0))) → K undef w') : St P ⟨d, .store t a x, ty, ps, af, g⟩ ρ w K :=
  s_store i hi hy ha hx h1 (by simpa using blt_lt hoff) H (fun w' H' => k w' (by
    have e : cs.setIfInBounds off v = (cs.toList.set off v).toArray := by apply Array.ext'; simp
    rw [e] at H'; exact H'))
end
/-! loops -/
theorem WC.again {I : (Nat → Value) → List Nat → World → Prop} {μ : (Nat → Value) → World → Nat} {m : Nat} {Q : QE} {ρ : Nat → Value} {ds : List Nat} {w : World} (h : I ρ ds w) (hm : μ ρ w < m) : thenE (fun ρ ds w => I ρ ds w ∧ μ ρ w < m) Q .normal ρ ds w := ⟨h, hm⟩
/-! what was there ahead of the call -/
section
variable {s : Sy} {w : World} {L : List Hp}
def Old (w0 w : World) : Prop := ∀ (k : Nat) (o : Obj), w0.heap[k]? = some o → w.heap[k]? = some o
theorem Hd.old (H : Hd s w L) {w0 : World} (i : Nat) (hi : L[i]? = some (fr w0)) : Old w0 w := H.frozen i hi
theorem Old.cell {w0 w : World} (h : Old w0 w) {a : Addr} {v : Value} (hc : w0.cell? a = some v) : w.cell? a = some v := by
  have hlt := World.block_lt_of_cell? w0 a hc
  have := h a.block _ (Array.getElem?_eq_getElem hlt)
  rw [← hc]; exact World.cell?_of_block (w := w0) (by rw [this, Array.getElem?_eq_getElem hlt])
theorem Old.rdC {w0 w : World} (h : Old w0 w) {v : Value} {sz n : Nat} {cs : List Value} (hr : RdC w0 v sz n cs) : RdC w v sz n cs := by
  obtain ⟨h1, h2 | ⟨b, o, c, h2, h3⟩⟩ := hr
  · exact ⟨h1, .inl h2⟩
  · exact ⟨h1, .inr ⟨b, o, c, h2, fun j u hj => h.cell (h3 j u hj)⟩⟩
theorem Ext.old {w w' : World} (e : Ext w w') : Old w w' := fun k o hk => (e.block k (Array.getElem?_eq_some_iff.1 hk).1).trans hk
end
end KE
