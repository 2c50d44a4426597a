/-
  The engine of this proof, for any program: operations that only read. No condition.
-/
import Derived.Test.YtpoahelomhjnaaaKEc
import Derived.Laws.AppendOwn
import Derived.Laws.NewFold
set_option linter.unusedVariables false
set_option linter.unusedSimpArgs false
namespace KE
open Go Go.RowKit

/-! ### types -/
def Ty (P : Program) (t : TypeId) (z : Value) (sz by_ : Nat) : Prop := ∃ i, P.info? t = some i ∧ i.zero = some z ∧ i.size = sz ∧ i.bytes = by_
def aggD : TypeDesc → Bool
  | .struct _ => true
  | .array _ _ => true
  | _ => false
abbrev oneC : Value → Bool := Value.oneCell'
def oneCX : Value → Bool
  | .agg _ => false
  | .tuple _ => false
  | _ => true
section
variable {P : Program} {w : World} {t : TypeId} {z : Value} {sz by_ : Nat}
theorem run_program : (program).run P w = .ok P w := rfl
theorem Ty.info (h : Ty P t z sz by_) : ∃ i, (typeInfo t).run P w = .ok i w ∧ i.zero = some z ∧ i.size = sz ∧ i.bytes = by_ := by
  obtain ⟨i, h1, h2⟩ := h
  exact ⟨i, by simp [typeInfo, Sem.run_bind, run_program, Result.andThen, h1, Sem.run_pure], h2⟩
theorem Ty.size (h : Ty P t z sz by_) : (Go.sizeOf t).run P w = .ok sz w := by
  obtain ⟨i, h1, h2, h3, h4⟩ := h.info (w := w)
  simp [Go.sizeOf, Sem.run_bind, h1, Result.andThen, Sem.run_pure, h3]
theorem Ty.zero (h : Ty P t z sz by_) : (zeroValue t).run P w = .ok z w := by
  obtain ⟨i, h1, h2, h3, h4⟩ := h.info (w := w)
  simp [zeroValue, Sem.run_bind, h1, Result.andThen, Sem.run_pure, h2]
theorem run_under {d : TypeDesc} (h : P.underlying t = some d) : (underlying t).run P w = .ok d w := by
  simp [underlying, Sem.run_bind, run_program, Result.andThen, h, Sem.run_pure]
theorem run_isAgg {d : TypeDesc} (h : P.underlying t = some d) : (isAgg t).run P w = .ok (aggD d) w := by
  simp [isAgg, Sem.run_bind, run_under h, Result.andThen]
  cases d <;> rfl
theorem run_load {p : Addr} {v : Value} (h : w.cell? p = some v) : (load p).run P w = .ok v w := by
  simp [load, Sem.run, h]
theorem run_store {p : Addr} {v u : Value} (h : w.cell? p = some u) (hf : w.frozen? p = false) (hv : oneC v = true) : (store p v).run P w = .ok () (w.setCell p v) := by
  cases v <;> first | (simp [Value.oneCell'] at hv; done) | simp [store, Sem.run, h, hf]
theorem run_loadCellsFrom {a : Addr} : ∀ (vs : List Value) (i : Nat) (acc : Array Value), (∀ j u, vs[j]? = some u → w.cell? (a.add (i + j)) = some u) → (loadCellsFrom a i vs.length acc).run P w = .ok (acc ++ vs.toArray) w
  | [], i, acc, _ => by simp [loadCellsFrom, Sem.run_pure]
  | v :: vs, i, acc, h => by
    have h0 := h 0 v rfl
    simp only [List.length_cons, loadCellsFrom, Sem.run_bind]
    rw [Nat.add_zero] at h0
    rw [run_load h0]
    simp only [Result.andThen]
    rw [run_loadCellsFrom vs (i + 1) (acc.push v) (fun j u hj => by have := h (j + 1) u hj; rwa [show i + (j + 1) = i + 1 + j from by omega] at this)]
    simp
theorem run_loadCells {a : Addr} {vs : List Value} {n : Nat} (hn : vs.length = n) (h : ∀ j u, vs[j]? = some u → w.cell? (a.add j) = some u) : (loadCells a n).run P w = .ok vs.toArray w := by
  subst hn
  have := run_loadCellsFrom (P := P) (w := w) (a := a) vs 0 #[] (fun j u hj => by rw [Nat.zero_add]; exact h j u hj)
  simpa [loadCells] using this
theorem run_loadVar1 {d : TypeDesc} (ht : P.underlying t = some d) (hd : aggD d = false) {p : Addr} {v : Value} (h : w.cell? p = some v) : (loadVar t p).run P w = .ok v w := by
  simp [loadVar, Sem.run_bind, run_isAgg ht, hd, Result.andThen, run_load h]
theorem run_loadVarA {d : TypeDesc} (ht : P.underlying t = some d) (hd : aggD d = true) (hy : Ty P t z sz by_) {p : Addr} {vs : List Value} (hn : vs.length = sz) (h : ∀ j u, vs[j]? = some u → w.cell? (p.add j) = some u) : (loadVar t p).run P w = .ok (.agg vs.toArray) w := by
  simp [loadVar, Sem.run_bind, run_isAgg ht, hd, Result.andThen, hy.size, run_loadCells hn h, Sem.run_pure]
theorem add_plain (b o n : Nat) : (⟨b, o, none⟩ : Addr).add n = ⟨b, o + n, none⟩ := by
  unfold Addr.add; split <;> simp_all
end

section
variable {P : Program} {w : World} {ρ : Nat → Value} {d : Option Tmp} {ty : TypeId} {ps : String} {af : Array Edge} {g : Option (Nat × Bool)}
/-! ### operations that only read -/
theorem x_move {x : Operand} {v : Value} (hx : ev ρ x = v) : (execOp (ev ρ) ⟨d, .move x, ty, ps, af, g⟩).run P w = .ok (.value v) w := by subst hx; rfl
theorem x_assign {x : Operand} {v : Value} (hx : ev ρ x = v) : (execOp (ev ρ) ⟨d, .assign x, ty, ps, af, g⟩).run P w = .ok (.value v) w := by subst hx; rfl
theorem x_load {t : TypeId} {x : Operand} {p : Addr} {v : Value} {dd : TypeDesc} (ht : P.underlying t = some dd) (hd : aggD dd = false) (hx : ev ρ x = .pointer (some p)) (hc : w.cell? p = some v) :
    (execOp (ev ρ) ⟨d, .load t x, ty, ps, af, g⟩).run P w = .ok (.value v) w := by
  simp [execOp, Instr.loadAt, Instr.sureAddr, hx, Sem.run_bind, Result.andThen, Sem.run_pure, run_loadVar1 ht hd hc]
theorem x_loadA {t : TypeId} {x : Operand} {p : Addr} {vs : List Value} {dd : TypeDesc} {z : Value} {sz by_ : Nat} (ht : P.underlying t = some dd) (hd : aggD dd = true) (hy : Ty P t z sz by_) (hx : ev ρ x = .pointer (some p)) (hn : vs.length = sz) (hc : ∀ j u, vs[j]? = some u → w.cell? (p.add j) = some u) :
    (execOp (ev ρ) ⟨d, .load t x, ty, ps, af, g⟩).run P w = .ok (.value (.agg vs.toArray)) w := by
  simp [execOp, Instr.loadAt, Instr.sureAddr, hx, Sem.run_bind, Result.andThen, Sem.run_pure, run_loadVarA ht hd hy hn hc]
theorem x_nilCheck {x : Operand} {p : Addr} (hx : ev ρ x = .pointer (some p)) : (execOp (ev ρ) ⟨d, .nilCheck x, ty, ps, af, g⟩).run P w = .ok (.value (.pointer (some p))) w := by
  simp [execOp, hx, Sem.run_pure]
theorem x_nilCheckF {x : Operand} {f : FuncId} {c1 c2 : Array Value} (hx : ev ρ x = .func (.func f) c1 c2) : (execOp (ev ρ) ⟨d, .nilCheck x, ty, ps, af, g⟩).run P w = .ok (.value (.func (.func f) c1 c2)) w := by
  simp [execOp, hx, Sem.run_pure]
theorem x_nilCheckY {x : Operand} {l : Nat} {c1 c2 : Array Value} (hx : ev ρ x = .func (.yield l) c1 c2) : (execOp (ev ρ) ⟨d, .nilCheck x, ty, ps, af, g⟩).run P w = .ok (.value (.func (.yield l) c1 c2)) w := by
  simp [execOp, hx, Sem.run_pure]
theorem x_nilCheckM {x : Operand} {m : Option Nat} (hx : ev ρ x = .map m) : (execOp (ev ρ) ⟨d, .nilCheck x, ty, ps, af, g⟩).run P w = .ok (.value (.map m)) w := by
  simp [execOp, hx, Sem.run_pure]
theorem x_fieldAddr {s : TypeId} {x : Operand} {f b o : Nat} {fs : Array Field} {fl : Field} {z : Value} {sz by_ k : Nat} (ht : P.underlying s = some (.struct fs)) (hf : fs[f]? = some fl) (hk : fl.offset = k) (hy : Ty P fl.type z sz by_) (hs : sz ≠ 0) (hx : ev ρ x = .pointer (some ⟨b, o, none⟩)) :
    (execOp (ev ρ) ⟨d, .fieldAddr s x f, ty, ps, af, g⟩).run P w = .ok (.value (.pointer (some ⟨b, o + k, none⟩))) w := by
  subst hk
  simp [execOp, Instr.fieldAt, Instr.sureAddr, hx, hf, Sem.run_bind, Result.andThen, Sem.run_pure, run_under ht, fieldPlace, hy.size, hs, add_plain]
theorem x_indexAddr {t e : TypeId} {x ix : Operand} {b o n c : Nat} {k : IntKind} {i : Int} {z : Value} {sz by_ : Nat} (ht : P.underlying t = some (.slice e)) (hy : Ty P e z sz by_) (hx : ev ρ x = .slice (some ⟨b, o, none⟩) n c) (hi : ev ρ ix = .int k i) (h0 : 0 ≤ i) (h1 : i < n) :
    (execOp (ev ρ) ⟨d, .indexAddr t x ix, ty, ps, af, g⟩).run P w = .ok (.value (.pointer (some ⟨b, o + i.toNat * sz, none⟩))) w := by
  simp [execOp, Instr.indexAt, Instr.sureAddr, hx, hi, asIntOf, Sem.run_bind, Result.andThen, Sem.run_pure, run_under ht, hy.size, h0, h1, add_plain]
theorem x_extract {x : Operand} {vs : Array Value} {i : Nat} {v : Value} (hx : ev ρ x = .tuple vs) (hv : vs[i]? = some v) : (execOp (ev ρ) ⟨d, .extract x i, ty, ps, af, g⟩).run P w = .ok (.value v) w := by
  simp [execOp, Instr.extract, hx, hv, Sem.run_bind, Result.andThen, Sem.run_pure]
theorem x_makeFunc {f : Fn} {a c : Array Operand} : (execOp (ev ρ) ⟨d, .makeFunc f a c, ty, ps, af, g⟩).run P w = .ok (.value (.func f (a.map (ev ρ)) (c.map (ev ρ)))) w := by
  simp [execOp, Instr.makeFunc, Sem.run_bind, Result.andThen, Sem.run_pure]
theorem x_not {t : TypeId} {x : Operand} {b : Bool} (hx : ev ρ x = .bool b) : (execOp (ev ρ) ⟨d, .unOp .not t x, ty, ps, af, g⟩).run P w = .ok (.value (.bool !b)) w := by
  simp [execOp, Op.unary, hx, Sem.run_bind, Result.andThen, Sem.run_pure]
theorem x_lenSlice {t e : TypeId} {x : Operand} {a : Option Addr} {n c : Nat} {ats : Array TypeId} (ht : P.underlying t = some (.slice e)) (ha : ats[0]? = some t) (hx : ev ρ x = .slice a n c) :
    (execOp (ev ρ) ⟨d, .call { callee := .builtin .len, args := #[x], argTypes := ats }, ty, ps, af, g⟩).run P w = .ok (.value (.int .i64 n)) w := by
  simp [execOp, resolve, invoke, builtin, Builtin.len_, ha, hx, Sem.run_bind, Result.andThen, Sem.run_pure, run_under ht, goInt]
theorem x_lenStr {t : TypeId} {x : Operand} {s : ByteArray} {ats : Array TypeId} (ht : P.underlying t = some .string) (ha : ats[0]? = some t) (hx : ev ρ x = .string s) :
    (execOp (ev ρ) ⟨d, .call { callee := .builtin .len, args := #[x], argTypes := ats }, ty, ps, af, g⟩).run P w = .ok (.value (.int .i64 s.size)) w := by
  simp [execOp, resolve, invoke, builtin, Builtin.len_, ha, hx, Sem.run_bind, Result.andThen, Sem.run_pure, run_under ht, goInt]
theorem x_lenMap {t k e : TypeId} {x : Operand} {m : Nat} {es : Array MapEntry} {cl : Nat} {ats : Array TypeId} (ht : P.underlying t = some (.map k e)) (ha : ats[0]? = some t) (hx : ev ρ x = .map (some m)) (hm : w.heap[m]? = some (.map es cl)) :
    (execOp (ev ρ) ⟨d, .call { callee := .builtin .len, args := #[x], argTypes := ats }, ty, ps, af, g⟩).run P w = .ok (.value (.int .i64 es.size)) w := by
  simp [execOp, resolve, invoke, builtin, Builtin.len_, ha, hx, Sem.run_bind, Result.andThen, Sem.run_pure, run_under ht, goInt, getObj, Sem.run, hm]
theorem x_lenNilMap {t k e : TypeId} {x : Operand} {ats : Array TypeId} (ht : P.underlying t = some (.map k e)) (ha : ats[0]? = some t) (hx : ev ρ x = .map none) :
    (execOp (ev ρ) ⟨d, .call { callee := .builtin .len, args := #[x], argTypes := ats }, ty, ps, af, g⟩).run P w = .ok (.value (.int .i64 0)) w := by
  simp [execOp, resolve, invoke, builtin, Builtin.len_, ha, hx, Sem.run_bind, Result.andThen, Sem.run_pure, run_under ht, goInt]
/-! integers -/
theorem wrap_in {n : Int} (h0 : -9223372036854775808 ≤ n) (h1 : n ≤ 9223372036854775807) : IntKind.i64.wrap n = n := by
  simp only [IntKind.wrap, IntKind.bits, IntKind.signed]
  simp
  omega
theorem x_bin {op : BinOp} {t t2 : TypeId} {x y : Operand} {k : IntKind} {a b : Int} {v : Value} (hx : ev ρ x = .int k a) (hy : ev ρ y = .int k b) (hv : (binOp op t (.int k a) (.int k b)).run P w = .ok v w) :
    (execOp (ev ρ) ⟨d, .binOp op t x y t2, ty, ps, af, g⟩).run P w = .ok (.value v) w := by
  have hg : (eqGuard op t x y (.int k a) (.int k b)).run P w = .ok () w := by
    unfold eqGuard; cases op <;> simp [Sem.run_pure]
  simp [execOp, hx, hy, Sem.run_bind, hg, hv, Result.andThen, Sem.run_pure]
theorem x_add {t t2 : TypeId} {x y : Operand} {a b : Int} (hx : ev ρ x = .int .i64 a) (hy : ev ρ y = .int .i64 b) (h0 : -9223372036854775808 ≤ a + b) (h1 : a + b ≤ 9223372036854775807) :
    (execOp (ev ρ) ⟨d, .binOp .add t x y t2, ty, ps, af, g⟩).run P w = .ok (.value (.int .i64 (a + b))) w := x_bin hx hy (by simp [binOp, Op.intArith, Sem.run_pure, wrap_in h0 h1])
theorem x_sub {t t2 : TypeId} {x y : Operand} {a b : Int} (hx : ev ρ x = .int .i64 a) (hy : ev ρ y = .int .i64 b) (h0 : -9223372036854775808 ≤ a - b) (h1 : a - b ≤ 9223372036854775807) :
    (execOp (ev ρ) ⟨d, .binOp .sub t x y t2, ty, ps, af, g⟩).run P w = .ok (.value (.int .i64 (a - b))) w := x_bin hx hy (by simp [binOp, Op.intArith, Sem.run_pure, wrap_in h0 h1])
theorem x_mul {t t2 : TypeId} {x y : Operand} {a b : Int} (hx : ev ρ x = .int .i64 a) (hy : ev ρ y = .int .i64 b) (h0 : -9223372036854775808 ≤ a * b) (h1 : a * b ≤ 9223372036854775807) :
    (execOp (ev ρ) ⟨d, .binOp .mul t x y t2, ty, ps, af, g⟩).run P w = .ok (.value (.int .i64 (a * b))) w := x_bin hx hy (by simp [binOp, Op.intArith, Sem.run_pure, wrap_in h0 h1])
theorem x_quo {t t2 : TypeId} {x y : Operand} {a b : Int} (hx : ev ρ x = .int .i64 a) (hy : ev ρ y = .int .i64 b) (h0 : 0 ≤ a) (h1 : a ≤ 9223372036854775807) (hb : 0 < b) :
    (execOp (ev ρ) ⟨d, .binOp .quo t x y t2, ty, ps, af, g⟩).run P w = .ok (.value (.int .i64 (a / b))) w := x_bin hx hy (by
  have e : a.tdiv b = a / b := Int.tdiv_eq_ediv_of_nonneg h0
  have h2 : 0 ≤ a / b := Int.ediv_nonneg h0 (by omega)
  have h3 : a / b ≤ a := Int.ediv_le_self b h0
  simp [binOp, Op.intDiv, Sem.run_pure, show b ≠ 0 by omega, e, wrap_in (n := a / b) (by omega) (by omega)])
theorem x_rem {t t2 : TypeId} {x y : Operand} {a b : Int} (hx : ev ρ x = .int .i64 a) (hy : ev ρ y = .int .i64 b) (h0 : 0 ≤ a) (hb : 0 < b) :
    (execOp (ev ρ) ⟨d, .binOp .rem t x y t2, ty, ps, af, g⟩).run P w = .ok (.value (.int .i64 (a % b))) w := x_bin hx hy (by
  have e : a.tmod b = a % b := Int.tmod_eq_emod_of_nonneg h0
  simp [binOp, Op.intDiv, Sem.run_pure, show b ≠ 0 by omega, e])
theorem x_lss {t t2 : TypeId} {x y : Operand} {k : IntKind} {a b : Int} (hx : ev ρ x = .int k a) (hy : ev ρ y = .int k b) :
    (execOp (ev ρ) ⟨d, .binOp .lss t x y t2, ty, ps, af, g⟩).run P w = .ok (.value (.bool (decide (a < b)))) w := x_bin hx hy (by simp [binOp, Op.intCmp, Sem.run_pure])
theorem x_leq {t t2 : TypeId} {x y : Operand} {k : IntKind} {a b : Int} (hx : ev ρ x = .int k a) (hy : ev ρ y = .int k b) :
    (execOp (ev ρ) ⟨d, .binOp .leq t x y t2, ty, ps, af, g⟩).run P w = .ok (.value (.bool (decide (a ≤ b)))) w := x_bin hx hy (by simp [binOp, Op.intCmp, Sem.run_pure])
theorem x_gtr {t t2 : TypeId} {x y : Operand} {k : IntKind} {a b : Int} (hx : ev ρ x = .int k a) (hy : ev ρ y = .int k b) :
    (execOp (ev ρ) ⟨d, .binOp .gtr t x y t2, ty, ps, af, g⟩).run P w = .ok (.value (.bool (decide (b < a)))) w := x_bin hx hy (by simp [binOp, Op.intCmp, Sem.run_pure])
theorem x_geq {t t2 : TypeId} {x y : Operand} {k : IntKind} {a b : Int} (hx : ev ρ x = .int k a) (hy : ev ρ y = .int k b) :
    (execOp (ev ρ) ⟨d, .binOp .geq t x y t2, ty, ps, af, g⟩).run P w = .ok (.value (.bool (decide (b ≤ a)))) w := x_bin hx hy (by simp [binOp, Op.intCmp, Sem.run_pure])
theorem x_eql {t t2 : TypeId} {x y : Operand} {k : IntKind} {a b : Int} (hx : ev ρ x = .int k a) (hy : ev ρ y = .int k b) :
    (execOp (ev ρ) ⟨d, .binOp .eql t x y t2, ty, ps, af, g⟩).run P w = .ok (.value (.bool (decide (a = b)))) w := x_bin hx hy (by simp only [binOp, Op.intCmp, Sem.run_pure]; simp; cases h : a == b <;> simp_all)
theorem x_neq {t t2 : TypeId} {x y : Operand} {k : IntKind} {a b : Int} (hx : ev ρ x = .int k a) (hy : ev ρ y = .int k b) :
    (execOp (ev ρ) ⟨d, .binOp .neq t x y t2, ty, ps, af, g⟩).run P w = .ok (.value (.bool (decide (a ≠ b)))) w := x_bin hx hy (by simp only [binOp, Op.intCmp, Sem.run_pure]; simp; cases h : a == b <;> simp_all)
/-! strings -/
theorem x_binS {op : BinOp} {t t2 : TypeId} {x y : Operand} {a b : ByteArray} {v : Value} (hx : ev ρ x = .string a) (hy : ev ρ y = .string b) (hv : (Op.stringOp op a b).run P w = .ok v w) :
    (execOp (ev ρ) ⟨d, .binOp op t x y t2, ty, ps, af, g⟩).run P w = .ok (.value v) w := by
  have hg : (eqGuard op t x y (.string a) (.string b)).run P w = .ok () w := by
    unfold eqGuard; cases op <;> simp [Sem.run_pure]
  have hb : (binOp op t (.string a) (.string b)).run P w = .ok v w := by rw [← hv]; cases op <;> simp [binOp]
  simp [execOp, hx, hy, Sem.run_bind, hg, hb, Result.andThen, Sem.run_pure]
theorem toList_loop (a : ByteArray) : ∀ (n i : Nat) (r : List UInt8), a.size - i = n → ByteArray.toList.loop a i r = r.reverse ++ a.data.toList.drop i := by
  intro n
  induction n with
  | zero =>
    intro i r h
    unfold ByteArray.toList.loop
    have h2 : a.data.size ≤ i := by have : a.data.size = a.size := rfl; omega
    rw [if_neg (by omega), List.drop_eq_nil_of_le (by simpa using h2)]; simp
  | succ n ih =>
    intro i r h
    unfold ByteArray.toList.loop
    have hlt : i < a.data.size := by have : a.data.size = a.size := rfl; omega
    rw [if_pos (by omega), ih (i + 1) _ (by omega), List.drop_eq_getElem_cons (l := a.data.toList) (i := i) (by simpa using hlt)]
    have hg : a.get! i = a.data.toList[i]'(by simpa using hlt) := by
      show a.data[i]! = _
      rw [getElem!_pos a.data i hlt]; rfl
    rw [hg]; simp
theorem toList_data (a : ByteArray) : a.toList = a.data.toList := by
  unfold ByteArray.toList
  rw [toList_loop a a.size 0 [] (by omega)]; simp
theorem str_eq {a b : ByteArray} : (a.toList == b.toList) = decide (a = b) := by
  rw [toList_data, toList_data]
  by_cases h : a = b
  · subst h; simp
  · rw [decide_eq_false h]
    cases e : (a.data.toList == b.data.toList) with
    | false => rfl
    | true => exact absurd (ByteArray.ext (Array.ext' (by simpa using e))) h
theorem x_eqlS {t t2 : TypeId} {x y : Operand} {a b : ByteArray} (hx : ev ρ x = .string a) (hy : ev ρ y = .string b) :
    (execOp (ev ρ) ⟨d, .binOp .eql t x y t2, ty, ps, af, g⟩).run P w = .ok (.value (.bool (decide (a = b)))) w := x_binS hx hy (by simp only [Op.stringOp, Sem.run_pure, str_eq])
theorem x_neqS {t t2 : TypeId} {x y : Operand} {a b : ByteArray} (hx : ev ρ x = .string a) (hy : ev ρ y = .string b) :
    (execOp (ev ρ) ⟨d, .binOp .neq t x y t2, ty, ps, af, g⟩).run P w = .ok (.value (.bool (decide (a ≠ b)))) w := x_binS hx hy (by simp only [Op.stringOp, Sem.run_pure, str_eq]; by_cases h : a = b <;> simp [h])
end
end KE
