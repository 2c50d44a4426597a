/-
  The engine of this proof, for any program: rules for walks, memory in parts, operations. No condition.
-/
import Derived.Test.YtahdodijpmkddaaE1
import Derived.Laws.AppendOwn
import Derived.Laws.NewFold
import Derived.Laws.CopyRow
import Derived.KernelRfl
set_option linter.unusedVariables false
set_option linter.unusedSimpArgs false
namespace KE
open Go Go.RowKit

/-! ### types -/
def Ty (P : Program) (t : TypeId) (z : Value) (sz by_ : Nat) : Prop := ∃ i, P.info? t = some i ∧ i.zero = some z ∧ i.size = sz ∧ i.bytes = by_
def aggD : TypeDesc → Bool
  | .struct _ => true
  | .array _ _ => true
  | _ => false
abbrev oneC : Value → Bool := Value.oneCell'
def oneCX : Value → Bool
  | .agg _ => false
  | .tuple _ => false
  | _ => true
section
variable {P : Program} {w : World} {t : TypeId} {z : Value} {sz by_ : Nat}
theorem run_program : (program).run P w = .ok P w := rfl
theorem Ty.info (h : Ty P t z sz by_) : ∃ i, (typeInfo t).run P w = .ok i w ∧ i.zero = some z ∧ i.size = sz ∧ i.bytes = by_ := by
  obtain ⟨i, h1, h2⟩ := h
  exact ⟨i, by simp [typeInfo, Sem.run_bind, run_program, Result.andThen, h1, Sem.run_pure], h2⟩
theorem Ty.size (h : Ty P t z sz by_) : (Go.sizeOf t).run P w = .ok sz w := by
  obtain ⟨i, h1, h2, h3, h4⟩ := h.info (w := w)
  simp [Go.sizeOf, Sem.run_bind, h1, Result.andThen, Sem.run_pure, h3]
theorem Ty.zero (h : Ty P t z sz by_) : (zeroValue t).run P w = .ok z w := by
  obtain ⟨i, h1, h2, h3, h4⟩ := h.info (w := w)
  simp [zeroValue, Sem.run_bind, h1, Result.andThen, Sem.run_pure, h2]
theorem run_under {d : TypeDesc} (h : P.underlying t = some d) : (underlying t).run P w = .ok d w := by
  simp [underlying, Sem.run_bind, run_program, Result.andThen, h, Sem.run_pure]
theorem run_isAgg {d : TypeDesc} (h : P.underlying t = some d) : (isAgg t).run P w = .ok (aggD d) w := by
  simp [isAgg, Sem.run_bind, run_under h, Result.andThen]
  cases d <;> rfl
theorem run_load {p : Addr} {v : Value} (h : w.cell? p = some v) : (load p).run P w = .ok v w := by
  simp [load, Sem.run, h]
theorem run_store {p : Addr} {v u : Value} (h : w.cell? p = some u) (hf : w.frozen? p = false) (hv : oneC v = true) : (store p v).run P w = .ok () (w.setCell p v) := by
  cases v <;> first | (simp [Value.oneCell'] at hv; done) | simp [store, Sem.run, h, hf]
theorem run_loadCellsFrom {a : Addr} : ∀ (vs : List Value) (i : Nat) (acc : Array Value), (∀ j u, vs[j]? = some u → w.cell? (a.add (i + j)) = some u) → (loadCellsFrom a i vs.length acc).run P w = .ok (acc ++ vs.toArray) w
  | [], i, acc, _ => by simp [loadCellsFrom, Sem.run_pure]
  | v :: vs, i, acc, h => by
    have h0 := h 0 v rfl
    simp only [List.length_cons, loadCellsFrom, Sem.run_bind]
    rw [Nat.add_zero] at h0
    rw [run_load h0]
    simp only [Result.andThen]
    rw [run_loadCellsFrom vs (i + 1) (acc.push v) (fun j u hj => by have := h (j + 1) u hj; rwa [show i + (j + 1) = i + 1 + j from by omega] at this)]
    simp
theorem run_loadCells {a : Addr} {vs : List Value} {n : Nat} (hn : vs.length = n) (h : ∀ j u, vs[j]? = some u → w.cell? (a.add j) = some u) : (loadCells a n).run P w = .ok vs.toArray w := by
  subst hn
  have := run_loadCellsFrom (P := P) (w := w) (a := a) vs 0 #[] (fun j u hj => by rw [Nat.zero_add]; exact h j u hj)
  simpa [loadCells] using this
theorem run_loadVar1 {d : TypeDesc} (ht : P.underlying t = some d) (hd : aggD d = false) {p : Addr} {v : Value} (h : w.cell? p = some v) : (loadVar t p).run P w = .ok v w := by
  simp [loadVar, Sem.run_bind, run_isAgg ht, hd, Result.andThen, run_load h]
theorem run_loadVarA {d : TypeDesc} (ht : P.underlying t = some d) (hd : aggD d = true) (hy : Ty P t z sz by_) {p : Addr} {vs : List Value} (hn : vs.length = sz) (h : ∀ j u, vs[j]? = some u → w.cell? (p.add j) = some u) : (loadVar t p).run P w = .ok (.agg vs.toArray) w := by
  simp [loadVar, Sem.run_bind, run_isAgg ht, hd, Result.andThen, hy.size, run_loadCells hn h, Sem.run_pure]
theorem add_plain (b o n : Nat) : (⟨b, o, none⟩ : Addr).add n = ⟨b, o + n, none⟩ := by
  unfold Addr.add; split <;> simp_all
end

section
variable {P : Program} {w : World} {ρ : Nat → Value} {d : Option Tmp} {ty : TypeId} {ps : String} {af : Array Edge} {g : Option (Nat × Bool)}
/-! ### operations that only read -/
theorem x_move {x : Operand} {v : Value} (hx : ev ρ x = v) : (execOp (ev ρ) ⟨d, .move x, ty, ps, af, g⟩).run P w = .ok (.value v) w := by subst hx; rfl
theorem x_assign {x : Operand} {v : Value} (hx : ev ρ x = v) : (execOp (ev ρ) ⟨d, .assign x, ty, ps, af, g⟩).run P w = .ok (.value v) w := by subst hx; rfl
theorem x_load {t : TypeId} {x : Operand} {p : Addr} {v : Value} {dd : TypeDesc} (ht : P.underlying t = some dd) (hd : aggD dd = false) (hx : ev ρ x = .pointer (some p)) (hc : w.cell? p = some v) :
    (execOp (ev ρ) ⟨d, .load t x, ty, ps, af, g⟩).run P w = .ok (.value v) w := by
  simp [execOp, Instr.loadAt, Instr.sureAddr, hx, Sem.run_bind, Result.andThen, Sem.run_pure, run_loadVar1 ht hd hc]
theorem x_loadA {t : TypeId} {x : Operand} {p : Addr} {vs : List Value} {dd : TypeDesc} {z : Value} {sz by_ : Nat} (ht : P.underlying t = some dd) (hd : aggD dd = true) (hy : Ty P t z sz by_) (hx : ev ρ x = .pointer (some p)) (hn : vs.length = sz) (hc : ∀ j u, vs[j]? = some u → w.cell? (p.add j) = some u) :
    (execOp (ev ρ) ⟨d, .load t x, ty, ps, af, g⟩).run P w = .ok (.value (.agg vs.toArray)) w := by
  simp [execOp, Instr.loadAt, Instr.sureAddr, hx, Sem.run_bind, Result.andThen, Sem.run_pure, run_loadVarA ht hd hy hn hc]
theorem x_nilCheck {x : Operand} {p : Addr} (hx : ev ρ x = .pointer (some p)) : (execOp (ev ρ) ⟨d, .nilCheck x, ty, ps, af, g⟩).run P w = .ok (.value (.pointer (some p))) w := by
  simp [execOp, hx, Sem.run_pure]
theorem x_nilCheckF {x : Operand} {f : FuncId} {c1 c2 : Array Value} (hx : ev ρ x = .func (.func f) c1 c2) : (execOp (ev ρ) ⟨d, .nilCheck x, ty, ps, af, g⟩).run P w = .ok (.value (.func (.func f) c1 c2)) w := by
  simp [execOp, hx, Sem.run_pure]
theorem x_nilCheckY {x : Operand} {l : Nat} {c1 c2 : Array Value} (hx : ev ρ x = .func (.yield l) c1 c2) : (execOp (ev ρ) ⟨d, .nilCheck x, ty, ps, af, g⟩).run P w = .ok (.value (.func (.yield l) c1 c2)) w := by
  simp [execOp, hx, Sem.run_pure]
theorem x_nilCheckM {x : Operand} {m : Option Nat} (hx : ev ρ x = .map m) : (execOp (ev ρ) ⟨d, .nilCheck x, ty, ps, af, g⟩).run P w = .ok (.value (.map m)) w := by
  simp [execOp, hx, Sem.run_pure]
theorem x_fieldAddr {s : TypeId} {x : Operand} {f b o : Nat} {fs : Array Field} {fl : Field} {z : Value} {sz by_ k : Nat} (ht : P.underlying s = some (.struct fs)) (hf : fs[f]? = some fl) (hk : fl.offset = k) (hy : Ty P fl.type z sz by_) (hs : sz ≠ 0) (hx : ev ρ x = .pointer (some ⟨b, o, none⟩)) :
    (execOp (ev ρ) ⟨d, .fieldAddr s x f, ty, ps, af, g⟩).run P w = .ok (.value (.pointer (some ⟨b, o + k, none⟩))) w := by
  subst hk
  simp [execOp, Instr.fieldAt, Instr.sureAddr, hx, hf, Sem.run_bind, Result.andThen, Sem.run_pure, run_under ht, fieldPlace, hy.size, hs, add_plain]
theorem x_indexAddr {t e : TypeId} {x ix : Operand} {b o n c : Nat} {k : IntKind} {i : Int} {z : Value} {sz by_ : Nat} (ht : P.underlying t = some (.slice e)) (hy : Ty P e z sz by_) (hx : ev ρ x = .slice (some ⟨b, o, none⟩) n c) (hi : ev ρ ix = .int k i) (h0 : 0 ≤ i) (h1 : i < n) :
    (execOp (ev ρ) ⟨d, .indexAddr t x ix, ty, ps, af, g⟩).run P w = .ok (.value (.pointer (some ⟨b, o + i.toNat * sz, none⟩))) w := by
  simp [execOp, Instr.indexAt, Instr.sureAddr, hx, hi, asIntOf, Sem.run_bind, Result.andThen, Sem.run_pure, run_under ht, hy.size, h0, h1, add_plain]
theorem x_extract {x : Operand} {vs : Array Value} {i : Nat} {v : Value} (hx : ev ρ x = .tuple vs) (hv : vs[i]? = some v) : (execOp (ev ρ) ⟨d, .extract x i, ty, ps, af, g⟩).run P w = .ok (.value v) w := by
  simp [execOp, Instr.extract, hx, hv, Sem.run_bind, Result.andThen, Sem.run_pure]
theorem x_makeFunc {f : Fn} {a c : Array Operand} : (execOp (ev ρ) ⟨d, .makeFunc f a c, ty, ps, af, g⟩).run P w = .ok (.value (.func f (a.map (ev ρ)) (c.map (ev ρ)))) w := by
  simp [execOp, Instr.makeFunc, Sem.run_bind, Result.andThen, Sem.run_pure]
theorem x_not {t : TypeId} {x : Operand} {b : Bool} (hx : ev ρ x = .bool b) : (execOp (ev ρ) ⟨d, .unOp .not t x, ty, ps, af, g⟩).run P w = .ok (.value (.bool !b)) w := by
  simp [execOp, Op.unary, hx, Sem.run_bind, Result.andThen, Sem.run_pure]
theorem x_lenSlice {t e : TypeId} {x : Operand} {a : Option Addr} {n c : Nat} {ats : Array TypeId} (ht : P.underlying t = some (.slice e)) (ha : ats[0]? = some t) (hx : ev ρ x = .slice a n c) :
    (execOp (ev ρ) ⟨d, .call { callee := .builtin .len, args := #[x], argTypes := ats }, ty, ps, af, g⟩).run P w = .ok (.value (.int .i64 n)) w := by
  simp [execOp, resolve, invoke, builtin, Builtin.len_, ha, hx, Sem.run_bind, Result.andThen, Sem.run_pure, run_under ht, goInt]
theorem x_lenStr {t : TypeId} {x : Operand} {s : ByteArray} {ats : Array TypeId} (ht : P.underlying t = some .string) (ha : ats[0]? = some t) (hx : ev ρ x = .string s) :
    (execOp (ev ρ) ⟨d, .call { callee := .builtin .len, args := #[x], argTypes := ats }, ty, ps, af, g⟩).run P w = .ok (.value (.int .i64 s.size)) w := by
  simp [execOp, resolve, invoke, builtin, Builtin.len_, ha, hx, Sem.run_bind, Result.andThen, Sem.run_pure, run_under ht, goInt]
theorem x_lenMap {t k e : TypeId} {x : Operand} {m : Nat} {es : Array MapEntry} {cl : Nat} {ats : Array TypeId} (ht : P.underlying t = some (.map k e)) (ha : ats[0]? = some t) (hx : ev ρ x = .map (some m)) (hm : w.heap[m]? = some (.map es cl)) :
    (execOp (ev ρ) ⟨d, .call { callee := .builtin .len, args := #[x], argTypes := ats }, ty, ps, af, g⟩).run P w = .ok (.value (.int .i64 es.size)) w := by
  simp [execOp, resolve, invoke, builtin, Builtin.len_, ha, hx, Sem.run_bind, Result.andThen, Sem.run_pure, run_under ht, goInt, getObj, Sem.run, hm]
theorem x_lenNilMap {t k e : TypeId} {x : Operand} {ats : Array TypeId} (ht : P.underlying t = some (.map k e)) (ha : ats[0]? = some t) (hx : ev ρ x = .map none) :
    (execOp (ev ρ) ⟨d, .call { callee := .builtin .len, args := #[x], argTypes := ats }, ty, ps, af, g⟩).run P w = .ok (.value (.int .i64 0)) w := by
  simp [execOp, resolve, invoke, builtin, Builtin.len_, ha, hx, Sem.run_bind, Result.andThen, Sem.run_pure, run_under ht, goInt]
/-! integers -/
theorem wrap_in {n : Int} (h0 : -9223372036854775808 ≤ n) (h1 : n ≤ 9223372036854775807) : IntKind.i64.wrap n = n := by
  simp only [IntKind.wrap, IntKind.bits, IntKind.signed]
  simp
  omega
theorem x_bin {op : BinOp} {t t2 : TypeId} {x y : Operand} {k : IntKind} {a b : Int} {v : Value} (hx : ev ρ x = .int k a) (hy : ev ρ y = .int k b) (hv : (binOp op t (.int k a) (.int k b)).run P w = .ok v w) :
    (execOp (ev ρ) ⟨d, .binOp op t x y t2, ty, ps, af, g⟩).run P w = .ok (.value v) w := by
  have hg : (eqGuard op t x y (.int k a) (.int k b)).run P w = .ok () w := by
    unfold eqGuard; cases op <;> simp [Sem.run_pure]
  simp [execOp, hx, hy, Sem.run_bind, hg, hv, Result.andThen, Sem.run_pure]
theorem x_add {t t2 : TypeId} {x y : Operand} {a b : Int} (hx : ev ρ x = .int .i64 a) (hy : ev ρ y = .int .i64 b) (h0 : -9223372036854775808 ≤ a + b) (h1 : a + b ≤ 9223372036854775807) :
    (execOp (ev ρ) ⟨d, .binOp .add t x y t2, ty, ps, af, g⟩).run P w = .ok (.value (.int .i64 (a + b))) w := x_bin hx hy (by simp [binOp, Op.intArith, Sem.run_pure, wrap_in h0 h1])
theorem x_sub {t t2 : TypeId} {x y : Operand} {a b : Int} (hx : ev ρ x = .int .i64 a) (hy : ev ρ y = .int .i64 b) (h0 : -9223372036854775808 ≤ a - b) (h1 : a - b ≤ 9223372036854775807) :
    (execOp (ev ρ) ⟨d, .binOp .sub t x y t2, ty, ps, af, g⟩).run P w = .ok (.value (.int .i64 (a - b))) w := x_bin hx hy (by simp [binOp, Op.intArith, Sem.run_pure, wrap_in h0 h1])
theorem x_mul {t t2 : TypeId} {x y : Operand} {a b : Int} (hx : ev ρ x = .int .i64 a) (hy : ev ρ y = .int .i64 b) (h0 : -9223372036854775808 ≤ a * b) (h1 : a * b ≤ 9223372036854775807) :
    (execOp (ev ρ) ⟨d, .binOp .mul t x y t2, ty, ps, af, g⟩).run P w = .ok (.value (.int .i64 (a * b))) w := x_bin hx hy (by simp [binOp, Op.intArith, Sem.run_pure, wrap_in h0 h1])
theorem x_quo {t t2 : TypeId} {x y : Operand} {a b : Int} (hx : ev ρ x = .int .i64 a) (hy : ev ρ y = .int .i64 b) (h0 : 0 ≤ a) (h1 : a ≤ 9223372036854775807) (hb : 0 < b) :
    (execOp (ev ρ) ⟨d, .binOp .quo t x y t2, ty, ps, af, g⟩).run P w = .ok (.value (.int .i64 (a / b))) w := x_bin hx hy (by
  have e : a.tdiv b = a / b := Int.tdiv_eq_ediv_of_nonneg h0
  have h2 : 0 ≤ a / b := Int.ediv_nonneg h0 (by omega)
  have h3 : a / b ≤ a := Int.ediv_le_self b h0
  simp [binOp, Op.intDiv, Sem.run_pure, show b ≠ 0 by omega, e, wrap_in (n := a / b) (by omega) (by omega)])
theorem x_rem {t t2 : TypeId} {x y : Operand} {a b : Int} (hx : ev ρ x = .int .i64 a) (hy : ev ρ y = .int .i64 b) (h0 : 0 ≤ a) (hb : 0 < b) :
    (execOp (ev ρ) ⟨d, .binOp .rem t x y t2, ty, ps, af, g⟩).run P w = .ok (.value (.int .i64 (a % b))) w := x_bin hx hy (by
  have e : a.tmod b = a % b := Int.tmod_eq_emod_of_nonneg h0
  simp [binOp, Op.intDiv, Sem.run_pure, show b ≠ 0 by omega, e])
theorem x_lss {t t2 : TypeId} {x y : Operand} {k : IntKind} {a b : Int} (hx : ev ρ x = .int k a) (hy : ev ρ y = .int k b) :
    (execOp (ev ρ) ⟨d, .binOp .lss t x y t2, ty, ps, af, g⟩).run P w = .ok (.value (.bool (decide (a < b)))) w := x_bin hx hy (by simp [binOp, Op.intCmp, Sem.run_pure])
theorem x_leq {t t2 : TypeId} {x y : Operand} {k : IntKind} {a b : Int} (hx : ev ρ x = .int k a) (hy : ev ρ y = .int k b) :
    (execOp (ev ρ) ⟨d, .binOp .leq t x y t2, ty, ps, af, g⟩).run P w = .ok (.value (.bool (decide (a ≤ b)))) w := x_bin hx hy (by simp [binOp, Op.intCmp, Sem.run_pure])
theorem x_gtr {t t2 : TypeId} {x y : Operand} {k : IntKind} {a b : Int} (hx : ev ρ x = .int k a) (hy : ev ρ y = .int k b) :
    (execOp (ev ρ) ⟨d, .binOp .gtr t x y t2, ty, ps, af, g⟩).run P w = .ok (.value (.bool (decide (b < a)))) w := x_bin hx hy (by simp [binOp, Op.intCmp, Sem.run_pure])
theorem x_geq {t t2 : TypeId} {x y : Operand} {k : IntKind} {a b : Int} (hx : ev ρ x = .int k a) (hy : ev ρ y = .int k b) :
    (execOp (ev ρ) ⟨d, .binOp .geq t x y t2, ty, ps, af, g⟩).run P w = .ok (.value (.bool (decide (b ≤ a)))) w := x_bin hx hy (by simp [binOp, Op.intCmp, Sem.run_pure])
theorem x_eql {t t2 : TypeId} {x y : Operand} {k : IntKind} {a b : Int} (hx : ev ρ x = .int k a) (hy : ev ρ y = .int k b) :
    (execOp (ev ρ) ⟨d, .binOp .eql t x y t2, ty, ps, af, g⟩).run P w = .ok (.value (.bool (decide (a = b)))) w := x_bin hx hy (by simp only [binOp, Op.intCmp, Sem.run_pure]; simp; cases h : a == b <;> simp_all)
theorem x_neq {t t2 : TypeId} {x y : Operand} {k : IntKind} {a b : Int} (hx : ev ρ x = .int k a) (hy : ev ρ y = .int k b) :
    (execOp (ev ρ) ⟨d, .binOp .neq t x y t2, ty, ps, af, g⟩).run P w = .ok (.value (.bool (decide (a ≠ b)))) w := x_bin hx hy (by simp only [binOp, Op.intCmp, Sem.run_pure]; simp; cases h : a == b <;> simp_all)
/-! strings -/
theorem x_binS {op : BinOp} {t t2 : TypeId} {x y : Operand} {a b : ByteArray} {v : Value} (hx : ev ρ x = .string a) (hy : ev ρ y = .string b) (hv : (Op.stringOp op a b).run P w = .ok v w) :
    (execOp (ev ρ) ⟨d, .binOp op t x y t2, ty, ps, af, g⟩).run P w = .ok (.value v) w := by
  have hg : (eqGuard op t x y (.string a) (.string b)).run P w = .ok () w := by
    unfold eqGuard; cases op <;> simp [Sem.run_pure]
  have hb : (binOp op t (.string a) (.string b)).run P w = .ok v w := by rw [← hv]; cases op <;> simp [binOp]
  simp [execOp, hx, hy, Sem.run_bind, hg, hb, Result.andThen, Sem.run_pure]
theorem toList_loop (a : ByteArray) : ∀ (n i : Nat) (r : List UInt8), a.size - i = n → ByteArray.toList.loop a i r = r.reverse ++ a.data.toList.drop i := by
  intro n
  induction n with
  | zero =>
    intro i r h
    unfold ByteArray.toList.loop
    have h2 : a.data.size ≤ i := by have : a.data.size = a.size := rfl; omega
    rw [if_neg (by omega), List.drop_eq_nil_of_le (by simpa using h2)]; simp
  | succ n ih =>
    intro i r h
    unfold ByteArray.toList.loop
    have hlt : i < a.data.size := by have : a.data.size = a.size := rfl; omega
    rw [if_pos (by omega), ih (i + 1) _ (by omega), List.drop_eq_getElem_cons (l := a.data.toList) (i := i) (by simpa using hlt)]
    have hg : a.get! i = a.data.toList[i]'(by simpa using hlt) := by
      show a.data[i]! = _
      rw [getElem!_pos a.data i hlt]; rfl
    rw [hg]; simp
theorem toList_data (a : ByteArray) : a.toList = a.data.toList := by
  unfold ByteArray.toList
  rw [toList_loop a a.size 0 [] (by omega)]; simp
theorem str_eq {a b : ByteArray} : (a.toList == b.toList) = decide (a = b) := by
  rw [toList_data, toList_data]
  by_cases h : a = b
  · subst h; simp
  · rw [decide_eq_false h]
    cases e : (a.data.toList == b.data.toList) with
    | false => rfl
    | true => exact absurd (ByteArray.ext (Array.ext' (by simpa using e))) h
theorem x_eqlS {t t2 : TypeId} {x y : Operand} {a b : ByteArray} (hx : ev ρ x = .string a) (hy : ev ρ y = .string b) :
    (execOp (ev ρ) ⟨d, .binOp .eql t x y t2, ty, ps, af, g⟩).run P w = .ok (.value (.bool (decide (a = b)))) w := x_binS hx hy (by simp only [Op.stringOp, Sem.run_pure, str_eq])
theorem x_neqS {t t2 : TypeId} {x y : Operand} {a b : ByteArray} (hx : ev ρ x = .string a) (hy : ev ρ y = .string b) :
    (execOp (ev ρ) ⟨d, .binOp .neq t x y t2, ty, ps, af, g⟩).run P w = .ok (.value (.bool (decide (a ≠ b)))) w := x_binS hx hy (by simp only [Op.stringOp, Sem.run_pure, str_eq]; by_cases h : a = b <;> simp [h])
end
end KE
set_option linter.unusedVariables false
set_option linter.unusedSimpArgs false
namespace KE
open Go Go.RowKit

theorem Hd.opn {s : Sy} {w : World} {L : List Hp} {p : Hp} {α : Type} {φ : α → Prop} {q : α → Hp} (H : Hd s w (p :: L)) (h : ∀ x, p x → ∃ a, φ a ∧ q a x) : ∃ a, φ a ∧ Hd s w (q a :: L) := by
  obtain ⟨h0, x, hs, a, b, h1, h2, h3, h4⟩ := H
  obtain ⟨c, hc, hq⟩ := h a h3
  exact ⟨c, hc, h0, x, hs, a, b, h1, h2, hq, h4⟩
theorem Hd.back {s : Sy} {w : World} {L : List Hp} {p q : Hp} {i : Nat} (hi : L[i]? = some p) (H : Hd s w (q :: L.eraseIdx i)) : Hd s w (L.set i q) := H.perm (eraseIdx_set_perm q hi)

/-! ### slices -/
/-- cells that are read -/
def RdC (w : World) (v : Value) (sz n : Nat) (cs : List Value) : Prop :=
  (cs.length = n * sz ∧ n ≤ 140737488355328) ∧ ((n = 0 ∧ ∃ a c, v = .slice a 0 c) ∨ ∃ b o c, v = .slice (some ⟨b, o, none⟩) n c ∧ ∀ j u, cs[j]? = some u → w.cell? ⟨b, o + j, none⟩ = some u)
/-- a slice of one's own: the whole block is owned -/
def SlB (v : Value) (e : TypeId) (sz n : Nat) (cs : List Value) (q : Nat × Nat × Nat × Array Value) : Prop :=
  v = .slice (some ⟨q.1, q.2.1, none⟩) n q.2.2.1 ∧ n ≤ q.2.2.1 ∧ q.2.1 + q.2.2.1 * sz ≤ q.2.2.2.size ∧ ∀ j u, cs[j]? = some u → q.2.2.2[q.2.1 + j]? = some u
def Sl (v : Value) (e : TypeId) (sz n : Nat) (cs : List Value) : Hp := fun h =>
  (cs.length = n * sz ∧ n ≤ 140737488355328) ∧ ((v = .slice none 0 0 ∧ n = 0) ∨ ∃ q, SlB v e sz n cs q ∧ pt q.1 (.cells q.2.2.2 e (0, 0)) h)
theorem Sl.nil (e : TypeId) (sz : Nat) (h : Nat → Option Obj) : Sl (.slice none 0 0) e sz 0 [] h := ⟨⟨by simp, by omega⟩, .inl ⟨rfl, rfl⟩⟩
theorem Hd.nil {s : Sy} {w : World} {L : List Hp} (H : Hd s w L) (e : TypeId) (sz : Nat) : Hd s w (Sl (.slice none 0 0) e sz 0 [] :: L) := by
  obtain ⟨h0, h, hs, hL⟩ := H
  refine ⟨h0, h, hs, fun _ => none, h, fun _ => .inl rfl, ?_, Sl.nil e sz _, hL⟩
  funext i; simp [hor]
theorem Sl.rd {w : World} {h : Nat → Option Obj} {v : Value} {e : TypeId} {sz n : Nat} {cs : List Value} (hs : hsub h w) (k : Sl v e sz n cs h) : RdC w v sz n cs := by
  obtain ⟨hl, ⟨rfl, rfl⟩ | ⟨⟨g, o, c, all⟩, ⟨rfl, hn, hc, hr⟩, hp⟩⟩ := k
  · exact ⟨hl, .inl ⟨rfl, none, 0, rfl⟩⟩
  · exact ⟨hl, .inr ⟨g, o, c, rfl, fun j u hj => cell_of (hs _ _ hp) (hr j u hj)⟩⟩
theorem Hd.sl {s : Sy} {w : World} {L : List Hp} (H : Hd s w L) {v : Value} {e : TypeId} {sz n : Nat} {cs : List Value} (i : Nat) (hi : L[i]? = some (Sl v e sz n cs)) : RdC w v sz n cs := by
  obtain ⟨h, h1, h2⟩ := H.fact_at i hi
  exact Sl.rd h1 h2
theorem RdC.ext {w w' : World} {v : Value} {sz n : Nat} {cs : List Value} (h : RdC w v sz n cs) (e : Ext w w') : RdC w' v sz n cs := by
  obtain ⟨h1, h2 | ⟨b, o, c, h2, h3⟩⟩ := h
  · exact ⟨h1, .inl h2⟩
  · exact ⟨h1, .inr ⟨b, o, c, h2, fun j u hj => (e.cell (World.block_lt_of_cell? w _ (h3 j u hj))).trans (h3 j u hj)⟩⟩
theorem RdC.shape {w : World} {v : Value} {sz n : Nat} {cs : List Value} (h : RdC w v sz n cs) : ∃ a c, v = .slice a n c := by
  obtain ⟨h1, ⟨rfl, a, c, h2⟩ | ⟨b, o, c, h2, h3⟩⟩ := h
  · exact ⟨a, c, h2⟩
  · exact ⟨_, c, h2⟩
/-- an element's place -/
theorem RdC.at_ {w : World} {v : Value} {sz n : Nat} {cs : List Value} (h : RdC w v sz n cs) {i : Nat} (hi : i < n) : ∃ b o c, v = .slice (some ⟨b, o, none⟩) n c ∧ ∀ j u, j < sz → cs[i * sz + j]? = some u → w.cell? ⟨b, o + i * sz + j, none⟩ = some u := by
  obtain ⟨h1, ⟨rfl, a, c, h2⟩ | ⟨b, o, c, h2, h3⟩⟩ := h
  · omega
  · exact ⟨b, o, c, h2, fun j u _ hu => by rw [Nat.add_assoc]; exact h3 _ u hu⟩
theorem Sl.form {v : Value} {e : TypeId} {sz n : Nat} {cs : List Value} {h : Nat → Option Obj} (k : Sl v e sz n cs h) : ∃ a c, v = .slice a n c := by
  obtain ⟨hl, ⟨rfl, rfl⟩ | ⟨⟨g, o, c, all⟩, ⟨rfl, hn, hc, hr⟩, hp⟩⟩ := k
  · exact ⟨none, 0, rfl⟩
  · exact ⟨_, c, rfl⟩

section
variable {P : Program} {w : World} {s : Sy} {L : List Hp}
/-- append to a slice of one's own -/
theorem run_append {t e ty : TypeId} {z : Value} {sz by_ : Nat} (ht : P.underlying t = some (.slice e)) (hy : Ty P e z sz by_) (hzs : z.cells.size = sz) (hsz : 0 < sz) (hby : 0 < by_)
    (H : Hd s w L) (i : Nat) {v x : Value} {n m : Nat} {cs news : List Value} (hi : L[i]? = some (Sl v e sz n cs)) (hx : RdC w x sz m news) (h1 : ∀ u ∈ news, oneC u = true) (hb : (n + m) * by_ ≤ 140737488355328) :
    ∃ v' w', (Builtin.append_ #[t, t] ty #[v, x]).run P w = .ok v' w' ∧ Hd s w' (L.set i (Sl v' e sz (n + m) (cs ++ news))) ∧ w.heap.size ≤ w'.heap.size := by
  obtain ⟨inf, hinf, hz, hsize, hbytes⟩ := hy
  have hnm : n + m ≤ 140737488355328 := Nat.le_trans (Nat.le_mul_of_pos_right _ hby) hb
  obtain ⟨hd0, ⟨⟨hxl, _⟩, hx⟩⟩ := And.intro trivial hx
  have H1 := H.pick i hi
  obtain ⟨⟨hl, hnb⟩, H1⟩ := Hd.unand H1
  have grown : ∀ (old : Nat), old < n + m → Hd s (w.drew.alloc (.cells (cs.toArray ++ news.toArray ++ Builtin.zeroCells z.cells (grownCap w (n + m) old e - (n + m))) e)) (L.set i (Sl (.slice (some ⟨w.heap.size, 0, none⟩) (n + m) (grownCap w (n + m) old e)) e sz (n + m) (cs ++ news))) := by
    intro old ho
    have hge := grownCap_ge w (n + m) old e
    refine Hd.back hi (Hd.weak ((H1.drop.drew).alloc _) fun h hp => ⟨⟨by rw [List.length_append, hl, hxl, Nat.add_mul], hnm⟩, .inr ⟨(w.heap.size, 0, _, _), ⟨rfl, hge, ?_, ?_⟩, hp⟩⟩)
    · simp only [Array.size_append, List.size_toArray, size_zeroCells, hzs, hl, hxl, Nat.zero_add]
      rw [← Nat.add_mul, ← Nat.add_mul]
      have e1 : n + m + (grownCap w (n + m) old e - (n + m)) = grownCap w (n + m) old e := by generalize grownCap w (n + m) old e = G at hge; omega
      rw [e1]; exact Nat.le_refl _
    · intro j u hj
      simp only [Nat.zero_add]
      have hlt : j < (cs ++ news).length := (List.getElem?_eq_some_iff.1 hj).1
      rw [Array.getElem?_append_left (by simpa using hlt)]
      simpa using hj
  -- nothing to append
  by_cases hm : m = 0
  · subst hm
    have hnews : news = [] := List.eq_nil_of_length_eq_zero (by simpa using hxl)
    subst hnews
    have hxs : ∃ a c, x = .slice a 0 c := by
      rcases hx with ⟨_, h⟩ | ⟨b, o, c, h, _⟩
      · exact h
      · exact ⟨_, c, h⟩
    obtain ⟨a, c, rfl⟩ := hxs
    have hfc : (Builtin.firstCells inf.size 0 (.slice a 0 c)).run P w = .ok #[] w := by
      cases a <;> simp [Builtin.firstCells, loadCells, loadCellsFrom, Sem.run_pure]
    refine ⟨v, w, ?_, ?_, Nat.le_refl _⟩
    · obtain ⟨h, hs, hk⟩ := H.fact_at i hi
      obtain ⟨_, ⟨rfl, rfl⟩ | ⟨⟨g, o, cp, all⟩, ⟨rfl, hn, hc, hr⟩, hp⟩⟩ := hk
      · simp [Builtin.append_, run_under ht, Go.sizeOf, typeInfo, hinf, Builtin.lenOf, hfc, Sem.run_bind, Result.andThen, Sem.run_pure, run_program]
      · have hn' : n ≤ cp := hn
        simp [Builtin.append_, run_under ht, Go.sizeOf, typeInfo, hinf, Builtin.lenOf, hfc, Sem.run_bind, Result.andThen, Sem.run_pure, run_program, hn', storeCells]
    · have : L.set i (Sl v e sz (n + 0) (cs ++ [])) = L := by
        rw [List.append_nil, Nat.add_zero]
        apply List.ext_getElem?
        intro k
        rw [List.getElem?_set]
        split
        · rename_i hik; subst hik
          obtain ⟨hlt, _⟩ := List.getElem?_eq_some_iff.1 hi
          rw [if_pos hlt, hi]
        · rfl
      rw [this]; exact H
  · rcases hx with ⟨h0, _⟩ | ⟨b, o, c, rfl, hr⟩
    · omega
    have hnews : ∀ j u, news[j]? = some u → w.cell? ((⟨b, o, none⟩ : Addr).add j) = some u := fun j u hj => by rw [add_plain]; exact hr j u hj
    obtain ⟨h, hs, hk⟩ := H.fact_at i hi
    obtain ⟨_, ⟨rfl, rfl⟩ | ⟨⟨g, o2, cp, all⟩, ⟨rfl, hn, hc, hr2⟩, hp⟩⟩ := hk
    · have hcs : cs = [] := List.eq_nil_of_length_eq_zero (by simpa using hl)
      subst hcs
      have hrun := run_append_nil (P := P) w t ty e inf z ht hinf hz ⟨b, o, none⟩ m c news (by rw [hxl, hsize]) hnews (by omega) (by omega) (by rw [hbytes]; simp only [Nat.zero_add] at hb; omega)
      have hg := grown 0 (by omega)
      simp only [Nat.zero_add, List.nil_append, Array.empty_append] at hg
      exact ⟨_, _, hrun, by simpa using hg, by simp⟩
    · have hn' : n ≤ cp := hn
      have hheap : w.heap[g]? = some (.cells all e (0, 0)) := hs _ _ hp
      by_cases hroom : n + m ≤ cp
      · have hf := run_firstCells_some (P := P) w inf.size m ⟨b, o, none⟩ m c news (by rw [hxl, hsize]) hnews
        have hfit : o2 + n * sz + 0 + news.length ≤ all.size := by
          have h1 : o2 + cp * sz ≤ all.size := hc
          have h2 : (n + m) * sz ≤ cp * sz := Nat.mul_le_mul_right _ hroom
          rw [hxl]; rw [Nat.add_mul] at h2; omega
        have hst := run_storeCells_at P g (o2 + n * sz) e news 0 all w hheap hfit h1
        simp only [Nat.add_zero, List.append_assoc] at hst
        rw [hsize] at hf
        refine ⟨.slice (some ⟨g, o2, none⟩) (n + m) cp, w.setRow g (all.toList.take (o2 + n * sz) ++ news ++ all.toList.drop (o2 + n * sz + news.length)).toArray, ?_, ?_, by simp [World.setRow]⟩
        · simp [Builtin.append_, run_under ht, Go.sizeOf, typeInfo, hinf, Builtin.lenOf, hroom, hf, add_plain, hsize, hst, Sem.run_bind, Result.andThen, Sem.run_pure, run_program]
        · have H2 : Hd s w (pt g (.cells all e (0, 0)) :: L.eraseIdx i) := by
            obtain ⟨q, ⟨hq1, hq2⟩, H2⟩ := Hd.opn (φ := fun q => SlB (.slice (some ⟨g, o2, none⟩) n cp) e sz n cs q ∧ True) (q := fun q => pt q.1 (.cells q.2.2.2 e (0, 0))) H1 (by
              rintro x (⟨h1, _⟩ | ⟨q, h1, h2⟩)
              · cases h1
              · exact ⟨q, ⟨h1, trivial⟩, h2⟩)
            obtain ⟨g', o', c', all'⟩ := q
            have e1 : g' = g := by have := hq1.1; simp at this; exact this.1.1.symm
            subst e1
            have hh := H2.obj 0 rfl
            rw [hheap] at hh
            have e2 : all = all' := by injection hh with hh; injection hh
            subst e2
            exact H2
          have H3 := Hd.change (w' := w.setRow g (all.toList.take (o2 + n * sz) ++ news ++ all.toList.drop (o2 + n * sz + news.length)).toArray) H2 0 rfl (setRow_heap w g all _ e (0, 0) hheap) (fun k hk => setRow_other w g k _ hk) ⟨rfl, rfl, rfl⟩
          refine Hd.back hi (Hd.weak H3 fun h hp => ⟨⟨by rw [List.length_append, hl, hxl, Nat.add_mul], hnm⟩, .inr ⟨(g, o2, cp, _), ⟨rfl, hroom, ?_, ?_⟩, hp⟩⟩)
          · have h1 : o2 + cp * sz ≤ all.size := hc
            simp only [List.size_toArray, List.length_append, List.length_take, List.length_drop, Array.length_toList]
            omega
          · intro j u hj
            have h1 : o2 + cp * sz ≤ all.size := hc
            have h2 : (n + m) * sz ≤ cp * sz := Nat.mul_le_mul_right _ hroom
            rw [Nat.add_mul] at h2
            simp only [List.getElem?_toArray]
            have htl : (all.toList.take (o2 + n * sz)).length = o2 + n * sz := by rw [List.length_take, Array.length_toList]; omega
            by_cases hj2 : j < cs.length
            · rw [List.append_assoc, List.getElem?_append_left (by rw [htl, ← hl]; omega), List.getElem?_take_of_lt (by rw [← hl]; omega)]
              rw [List.getElem?_append_left hj2] at hj
              have := hr2 j u hj
              simpa using this
            · rw [List.getElem?_append_right (by omega)] at hj
              have hlt : j - cs.length < news.length := (List.getElem?_eq_some_iff.1 hj).1
              rw [List.getElem?_append_left (by rw [List.length_append, htl]; rw [hl] at hlt hj2; omega), List.getElem?_append_right (by rw [htl]; rw [hl] at hj2; omega), htl]
              rw [show o2 + j - (o2 + n * sz) = j - cs.length from by rw [hl]; omega]
              exact hj
      · have holds : ∀ j u, cs[j]? = some u → w.cell? ((⟨g, o2, none⟩ : Addr).add j) = some u := fun j u hj => by rw [add_plain]; exact cell_of hheap (hr2 j u hj)
        have hrun := run_append_grow (P := P) w t ty e inf z ht hinf hz ⟨g, o2, none⟩ n cp cs (by rw [hl, hsize]) holds ⟨b, o, none⟩ m c news (by rw [hxl, hsize]) hnews (by omega) (by omega) (growslice_fits (by omega) (by rw [hbytes]; exact hb))
        exact ⟨_, _, hrun, grown cp (by omega), by simp⟩
end
end KE
set_option linter.unusedVariables false
set_option linter.unusedSimpArgs false
namespace KE
open Go Go.RowKit

section
variable {P : Program} {r : Option Nat} {N : Nat} {Q : QE} {ρ : Nat → Value} {ds : List Nat} {w : World} {ops : Array Oper} {rest : List Oper} {o : Oper} {v : Value}
theorem WL.rd (hg : o.guard = none) (hd : okD N o.dst = true) (hp : plainOp o = true) (hx : (execOp (ev ρ) o).run P w = .ok (.value v) w) (k : WL P r N ops Q rest (updO ρ o.dst v) ds w) : WL P r N ops Q (o :: rest) ρ ds w := by
  refine WL.st hg hd ⟨?_, ?_⟩
  · cases ho : o.op <;> simp_all [plainOp]
  · rw [hx]; exact k
theorem RS.of (hg : o.guard = none) (hp : plainOp o = true) (hx : (execOp (ev ρ) o).run P w = .ok (.value v) w) : RS P ops o ρ w v := ⟨hp, .inl ⟨by simp [Region.wanted, hg], hx⟩⟩
theorem RS.no (hp : plainOp o = true) (hw : Region.wanted o (yieldE ops ρ) = false) : RS P ops o ρ w undef := ⟨hp, .inr ⟨hw, rfl⟩⟩
theorem RS.yes (hp : plainOp o = true) (hw : Region.wanted o (yieldE ops ρ) = true) (hx : (execOp (ev ρ) o).run P w = .ok (.value v) w) : RS P ops o ρ w v := ⟨hp, .inl ⟨hw, hx⟩⟩
theorem WK.rd {eff : List Nat} {bef : List (List Nat)} {i : Nat} {can pend : List Nat} (ho : ops[i]? = some o) (he : eff.contains i = false) (hs : RS P ops o ρ w v) (k : WK P r N ops eff bef Q can (i :: pend) (updO ρ o.dst v) ds w) : WK P r N ops eff bef Q (i :: can) pend ρ ds w := by
  unfold WK
  rw [ho]
  simp only [he, cond_false]
  exact ⟨v, hs, k⟩
theorem WK.ef {eff : List Nat} {bef : List (List Nat)} {i : Nat} {can pend : List Nat} (ho : ops[i]? = some o) (he : eff.contains i = true) (hw : Region.wanted o (yieldE ops ρ) = true)
    (k : St P o ρ w fun v w' => Stab P ops (bef.getD i []) pend (updO ρ o.dst v) w' ∧ WK P r N ops eff bef Q can pend (updO ρ o.dst v) ds w') : WK P r N ops eff bef Q (i :: can) pend ρ ds w := by
  unfold WK
  rw [ho]
  simp only [he, cond_true]
  exact .inl ⟨hw, k⟩
theorem WK.un {eff : List Nat} {bef : List (List Nat)} {i : Nat} {can pend : List Nat} (ho : ops[i]? = some o) (he : eff.contains i = true) (hw : Region.wanted o (yieldE ops ρ) = false)
    (hs : Stab P ops (bef.getD i []) pend (updO ρ o.dst undef) w) (k : WK P r N ops eff bef Q can pend (updO ρ o.dst undef) ds w) : WK P r N ops eff bef Q (i :: can) pend ρ ds w := by
  unfold WK
  rw [ho]
  simp only [he, cond_true]
  exact .inr ⟨hw, hs, k⟩
end

section
variable {P : Program} {w : World} {ρ : Nat → Value} {d : Option Tmp} {ty : TypeId} {ps : String} {af : Array Edge} {g : Option (Nat × Bool)} {s : Sy} {L : List Hp} {K : Value → World → Prop}
theorem s_alloc {t : TypeId} {z : Value} {sz by_ : Nat} (hy : Ty P t z sz by_) (H : Hd s w L) (k : ∀ b w', Hd s w' (pt b (.cells z.cells t) :: L) → K (.pointer (some ⟨b, 0, none⟩)) w') : St P ⟨d, .alloc t, ty, ps, af, g⟩ ρ w K := by
  refine ⟨trivial, ?_⟩
  have : (execOp (ev ρ) ⟨d, .alloc t, ty, ps, af, g⟩).run P w = .ok (.value (.pointer (some ⟨w.heap.size, 0, none⟩))) (w.alloc (.cells z.cells t)) := by
    simp [execOp, Instr.alloc, Sem.run_bind, hy.zero, newVar, newRow, Result.andThen, Sem.run_pure]
  rw [this]; exact k _ _ (H.alloc _)
theorem s_box {t : TypeId} {x : Operand} {v : Value} (hx : ev ρ x = v) (H : Hd s w L) (k : ∀ b w', Hd s w' (pt b (.cells v.cells t) :: L) → K (.pointer (some ⟨b, 0, none⟩)) w') : St P ⟨d, .box t x, ty, ps, af, g⟩ ρ w K := by
  refine ⟨trivial, ?_⟩
  have : (execOp (ev ρ) ⟨d, .box t x, ty, ps, af, g⟩).run P w = .ok (.value (.pointer (some ⟨w.heap.size, 0, none⟩))) (w.alloc (.cells v.cells t)) := by
    simp [execOp, Instr.box, Sem.run_bind, newVar, newRow, Result.andThen, Sem.run_pure, hx]
  rw [this]; exact k _ _ (H.alloc _)
theorem s_makeMap {t : TypeId} (H : Hd s w L) (k : ∀ b w', Hd s w' (pt b (.map #[] 0) :: L) → K (.map (some b)) w') : St P ⟨d, .makeMap t none, ty, ps, af, g⟩ ρ w K := by
  refine ⟨trivial, ?_⟩
  have : (execOp (ev ρ) ⟨d, .makeMap t none, ty, ps, af, g⟩).run P w = .ok (.value (.map (some w.heap.size))) (w.alloc (.map #[] 0)) := by
    simp [execOp, Instr.makeMap, Sem.run_bind, Result.andThen, Sem.run_pure]
  rw [this]; exact k _ _ (H.alloc _)
theorem s_store {t : TypeId} {a x : Operand} {b off : Nat} {cs : Array Value} {t0 : TypeId} {z v : Value} {by_ : Nat} (i : Nat) (hi : L[i]? = some (pt b (.cells cs t0 (0, 0)))) (hy : Ty P t z 1 by_) (ha : ev ρ a = .pointer (some ⟨b, off, none⟩)) (hx : ev ρ x = v) (h1 : oneC v = true) (hoff : off < cs.size)
    (H : Hd s w L) (k : ∀ w', Hd s w' (L.set i (pt b (.cells (cs.setIfInBounds off v) t0))) → K undef w') : St P ⟨d, .store t a x, ty, ps, af, g⟩ ρ w K := by
  refine ⟨trivial, ?_⟩
  have hcell := H.cell (off := off) i hi (Array.getElem?_eq_getElem hoff)
  have hfree : w.frozen? ⟨b, off, none⟩ = false := free_of (H.obj i hi)
  have hcs : v.cells = #[v] := by cases v <;> first | rfl | (simp [Value.oneCell'] at h1)
  have : (execOp (ev ρ) ⟨d, .store t a x, ty, ps, af, g⟩).run P w = .ok .skip (w.setCell ⟨b, off, none⟩ v) := by
    have hst := run_store (P := P) hcell hfree h1
    simp [execOp, Instr.storeAt, Instr.sureAddr, ha, hx, Sem.run_bind, Result.andThen, Sem.run_pure, storeVar, hy.size, hcs, storeCells, add_plain, hst]
  rw [this]; exact k _ (H.setCell i hi v)
/-- a struct is stored whole -/
theorem s_storeA {t : TypeId} {a x : Operand} {b off : Nat} {cs : Array Value} {t0 : TypeId} {z : Value} {vs : List Value} {sz by_ : Nat} (i : Nat) (hi : L[i]? = some (pt b (.cells cs t0 (0, 0)))) (hy : Ty P t z sz by_) (ha : ev ρ a = .pointer (some ⟨b, off, none⟩)) (hx : ev ρ x = .agg vs.toArray) (hn : vs.length = sz) (h1 : ∀ v ∈ vs, oneC v = true) (hoff : off + sz ≤ cs.size)
    (H : Hd s w L) (k : ∀ w', Hd s w' (L.set i (pt b (.cells (cs.toList.take off ++ vs ++ cs.toList.drop (off + vs.length)).toArray t0))) → K undef w') : St P ⟨d, .store t a x, ty, ps, af, g⟩ ρ w K := by
  refine ⟨trivial, ?_⟩
  have hst := run_storeCells_at P b off t0 vs 0 cs w (H.obj i hi) (by rw [hn]; omega) h1
  simp only [Nat.add_zero] at hst
  have : (execOp (ev ρ) ⟨d, .store t a x, ty, ps, af, g⟩).run P w = .ok .skip (w.setRow b (cs.toList.take off ++ vs ++ cs.toList.drop (off + vs.length)).toArray) := by
    simp [execOp, Instr.storeAt, Instr.sureAddr, ha, hx, Sem.run_bind, Result.andThen, Sem.run_pure, storeVar, hy.size, Value.cells, hn, hst] at *
  rw [this]
  exact k _ (H.change i hi (setRow_heap w b cs _ t0 (0, 0) (H.obj i hi)) (fun k hk => setRow_other w b k _ hk) ⟨rfl, rfl, rfl⟩)
theorem s_buildSlice {t e : TypeId} {n : Nat} {parts : Array (Nat × Operand)} {z : Value} {sz by_ : Nat} {cells : Array Value} (ht : P.underlying t = some (.slice e)) (hy : Ty P e z sz by_) (hn : n * sz ≠ 0) (hn2 : n * sz ≤ 16777216)
    (hp : Instr.fill (fun i => some (i * sz, sz)) ((Array.range (n * sz)).map (z.cells[· % z.cells.size]!)) (parts.map fun (i, x) => (i, ev ρ x)).toList = some cells) (hc : cells.size = n * sz)
    (H : Hd s w L) (k : ∀ b w', Hd s w' (Sl (.slice (some ⟨b, 0, none⟩) n n) e sz n cells.toList :: L) → K (.slice (some ⟨b, 0, none⟩) n n) w') : St P ⟨d, .buildSlice t n parts, ty, ps, af, g⟩ ρ w K := by
  refine ⟨trivial, ?_⟩
  have : (execOp (ev ρ) ⟨d, .buildSlice t n parts, ty, ps, af, g⟩).run P w = .ok (.value (.slice (some ⟨w.heap.size, 0, none⟩) n n)) (w.alloc (.cells cells e)) := by
    have e1 : ¬ (2 ^ 24 < n * sz) := by omega
    simp only [execOp, Instr.buildSlice, Sem.run_bind, run_under ht, Result.andThen, Sem.run_pure, hy.size]
    rw [if_neg (by omega), if_neg hn]
    simp only [Sem.run_bind, hy.zero, Result.andThen, Sem.run_pure]
    rw [hp]
    simp [newRow, Sem.run_bind, Result.andThen, Sem.run_pure]
  rw [this]
  refine k _ _ (Hd.weak (H.alloc _) fun h hp => ⟨⟨by simp [hc], by have := Nat.le_of_dvd (Nat.pos_of_ne_zero hn) (Nat.dvd_mul_right n sz); omega⟩, .inr ⟨(w.heap.size, 0, n, cells), ⟨rfl, Nat.le_refl _, by simp [hc], ?_⟩, hp⟩⟩)
  intro j u hj
  simpa using hj
theorem s_append {t e : TypeId} {a x : Operand} {z : Value} {sz by_ : Nat} {ats : Array TypeId} (ht : P.underlying t = some (.slice e)) (hy : Ty P e z sz by_) (hzs : z.cells.size = sz) (hsz : 0 < sz) (hby : 0 < by_) (hats : ats = #[t, t])
    (i : Nat) {v y : Value} {n m : Nat} {cs news : List Value} (hi : L[i]? = some (Sl v e sz n cs)) (ha : ev ρ a = v) (hxe : ev ρ x = y) (hx : RdC w y sz m news) (h1 : ∀ u ∈ news, oneC u = true) (hb : (n + m) * by_ ≤ 140737488355328)
    (H : Hd s w L) (k : ∀ v' w', Hd s w' (L.set i (Sl v' e sz (n + m) (cs ++ news))) → K v' w') : St P ⟨d, .call { callee := .builtin .append, args := #[a, x], argTypes := ats }, ty, ps, af, g⟩ ρ w K := by
  subst hats
  obtain ⟨v', w', hrun, H', _⟩ := run_append (ty := ty) ht hy hzs hsz hby H i hi hx h1 hb
  refine ⟨trivial, ?_⟩
  have : (execOp (ev ρ) ⟨d, .call { callee := .builtin .append, args := #[a, x], argTypes := #[t, t] }, ty, ps, af, g⟩).run P w = .ok (.value v') w' := by
    simp [execOp, resolve, invoke, builtin, ha, hxe, hrun, Sem.run_bind, Result.andThen, Sem.run_pure]
  rw [this]
  exact k _ _ H'
/-! calls -/
def Cal (P : Program) (f : FuncId) : Prop := ∃ fn, P.funcs[f]? = some fn ∧ fn.body.isNone = false ∧ (fn.name == "runtime.NumGoroutine") = false
theorem run_callFunc {f : FuncId} {args : Array Value} (h : Cal P f) : (callFunc f args).run P w = .ok (.enter f args) w := by
  obtain ⟨fn, h1, h2, h3⟩ := h
  simp only [callFunc, Sem.run_bind, run_program, Result.andThen, h1, h2, h3, Bool.false_eq_true, if_false, Sem.run_pure]
theorem s_call {f : FuncId} {args : Array Operand} {ats : Array TypeId} {R : Value → World → Prop} (hc : Cal P f) (h : CC P f (args.map (ev ρ)) w R) (k : ∀ v w', R v w' → K v w') : St P ⟨d, .call { callee := .value (.func f), args := args, argTypes := ats }, ty, ps, af, g⟩ ρ w K := by
  refine ⟨trivial, ?_⟩
  have : (execOp (ev ρ) ⟨d, .call { callee := .value (.func f), args := args, argTypes := ats }, ty, ps, af, g⟩).run P w = .ok (.enter f (args.map (ev ρ))) w := by
    simp [execOp, resolve, Deferred.ofValue, ev, invoke, Sem.run_bind, Result.andThen, Sem.run_pure, run_callFunc hc]
  rw [this]
  exact h.mono k
/-- a call of a function value -/
theorem s_callv {x : Operand} {f : FuncId} {args : Array Operand} {ats : Array TypeId} {c1 c2 : Array Value} {R : Value → World → Prop} (hx : ev ρ x = .func (.func f) c1 c2) (hc : Cal P f) (h : CC P f (c1 ++ args.map (ev ρ) ++ c2) w R) (k : ∀ v w', R v w' → K v w') : St P ⟨d, .call { callee := .value x, args := args, argTypes := ats }, ty, ps, af, g⟩ ρ w K := by
  refine ⟨trivial, ?_⟩
  have : (execOp (ev ρ) ⟨d, .call { callee := .value x, args := args, argTypes := ats }, ty, ps, af, g⟩).run P w = .ok (.enter f (c1 ++ args.map (ev ρ) ++ c2)) w := by
    simp [execOp, resolve, Deferred.ofValue, hx, invoke, Sem.run_bind, Result.andThen, Sem.run_pure, run_callFunc hc]
  rw [this]
  exact h.mono k
theorem s_yield {x : Operand} {l : Nat} {args : Array Operand} {ats : Array TypeId} {R : Value → World → Prop} (hx : ev ρ x = .func (.yield l) #[] #[]) (h : YY P l (args.map (ev ρ)) w R) (k : ∀ v w', R v w' → K v w') : St P ⟨d, .call { callee := .value x, args := args, argTypes := ats }, ty, ps, af, g⟩ ρ w K := by
  refine ⟨trivial, ?_⟩
  obtain ⟨fn, tmps, asg, body, h1, h2⟩ := h
  have : (execOp (ev ρ) ⟨d, .call { callee := .value x, args := args, argTypes := ats }, ty, ps, af, g⟩).run P w = .ok (.round l fn tmps asg body) w := by
    simp [execOp, resolve, Deferred.ofValue, hx, invoke, Sem.run_bind, Result.andThen, Sem.run_pure, h1]
  rw [this]
  exact RoundIn.mono h2 fun e w' ⟨v, e1, r⟩ => ⟨v, e1, k _ _ r⟩
end

/-! ### maps -/
theorem ba_beq (a b : ByteArray) : (a == b) = decide (a = b) := by
  have e : (a == b) = (a.data == b.data) := by cases a; cases b; rfl
  rw [e]
  by_cases h : a = b
  · subst h; simp
  · rw [decide_eq_false h]
    cases e : (a.data == b.data) with
    | false => rfl
    | true => exact absurd (ByteArray.ext (by simpa using e)) h
theorem sb_str (n : Nat) (a : ByteArray) : Instr.sameBits n (.string a) (.string a) = true := by
  cases n <;> simp only [Instr.sameBits, ba_beq, decide_true]
theorem sb_int (n : Nat) (k : IntKind) (a : Int) : Instr.sameBits n (.int k a) (.int k a) = true := by
  cases n <;> simp [Instr.sameBits]
theorem ck_str {P : Program} {kt : TypeId} (h : P.underlying kt = some .string) (n : Nat) (e : Bool) (a : ByteArray) (w : World) : (Instr.checkKey e (n + 1) kt (.string a)).run P w = .ok () w := by
  simp only [Instr.checkKey, Sem.run_bind, run_under h, Result.andThen, Sem.run_pure]
theorem ck_int {P : Program} {kt : TypeId} {k : IntKind} (h : P.underlying kt = some (.int k)) (n : Nat) (e : Bool) (a : Int) (w : World) : (Instr.checkKey e (n + 1) kt (.int k a)).run P w = .ok () w := by
  simp only [Instr.checkKey, Sem.run_bind, run_under h, Result.andThen, Sem.run_pure]
structure KT (P : Program) (kt : TypeId) (κ : Type) [DecidableEq κ] where
  kv : κ → Value
  kd : TypeDesc
  und : P.underlying kt = some kd
  same : ∀ a b, Instr.sameNow kd (kv a) (kv b) = some (decide (a = b))
  bits : ∀ a, Instr.sameBits 10000 (kv a) (kv a) = true
  chk : ∀ (e : Bool) (a : κ) (w : World), (Instr.checkKey e 10000 kt (kv a)).run P w = .ok () w
def ktS (P : Program) (kt : TypeId) (h : P.underlying kt = some .string) : KT P kt ByteArray where
  kv := .string
  kd := .string
  und := h
  same := fun a b => by
    simp only [Instr.sameNow, ba_beq]
  bits := fun a => sb_str _ a
  chk := fun e a w => ck_str h 9999 e a w
def ktI (P : Program) (kt : TypeId) (k : IntKind) (h : P.underlying kt = some (.int k)) : KT P kt Int where
  kv := .int k
  kd := .int k
  und := h
  same := fun a b => by
    simp only [Instr.sameNow, if_true]
    congr 1
  bits := fun a => sb_int _ k a
  chk := fun e a w => ck_int h 9999 e a w

section
variable {κ : Type} [DecidableEq κ]
/-- the entries of a map, in the order in which they lie -/
def MV (kv : κ → Value) (es : Array MapEntry) (l : List (κ × Value)) : Prop := es.toList.map (fun e => (e.key, e.val)) = l.map fun p => (kv p.1, p.2)
def Stamps (es : Array MapEntry) (cl : Nat) : Prop := (es.toList.map (·.born)).Nodup ∧ ∀ e ∈ es.toList, e.born < cl
def alook (k : κ) : List (κ × Value) → Option Value
  | [] => none
  | p :: l => if k = p.1 then some p.2 else alook k l
def aset (k : κ) (v : Value) : List (κ × Value) → List (κ × Value)
  | [] => [(k, v)]
  | p :: l => if k = p.1 then (k, v) :: l else p :: aset k v l
def adel (k : κ) : List (κ × Value) → List (κ × Value)
  | [] => []
  | p :: l => if k = p.1 then l else p :: adel k l
def aidx (k : κ) : List (κ × Value) → Nat → Option (Nat × Value)
  | [], _ => none
  | p :: l, i => if k = p.1 then some (i, p.2) else aidx k l (i + 1)
def Mp {P : Program} {kt : TypeId} (T : KT P kt κ) (b : Nat) (l : List (κ × Value)) : Hp := fun h => ∃ q : Array MapEntry × Nat, (MV T.kv q.1 l ∧ Stamps q.1 q.2) ∧ pt b (.map q.1 q.2) h
variable {P : Program} {kt : TypeId} {T : KT P kt κ} {w : World}
theorem findNow_aidx (k : κ) : ∀ (es : List MapEntry) (l : List (κ × Value)) (i : Nat), es.map (fun e => (e.key, e.val)) = l.map (fun p => (T.kv p.1, p.2)) → Instr.findNow T.kd (T.kv k) es i = some (aidx k l i)
  | [], [], i, _ => rfl
  | [], _ :: _, i, h => by simp at h
  | _ :: _, [], i, h => by simp at h
  | e :: es, p :: l, i, h => by
    simp only [List.map_cons, List.cons.injEq, Prod.mk.injEq] at h
    obtain ⟨⟨h1, h2⟩, h3⟩ := h
    simp only [Instr.findNow, h1, T.same]
    by_cases hk : k = p.1
    · simp [hk, aidx, h2]
    · simp only [hk, decide_false, aidx, if_false]
      exact findNow_aidx k es l (i + 1) h3
theorem run_findKey {es : Array MapEntry} {l : List (κ × Value)} (h : MV T.kv es l) (k : κ) : (Instr.findKey kt (T.kv k) es.toList).run P w = .ok (aidx k l 0) w := by
  simp [Instr.findKey, Sem.run_bind, run_under T.und, Result.andThen, findNow_aidx (T := T) k es.toList l 0 h, Sem.run_pure]
theorem aidx_alook (k : κ) : ∀ (l : List (κ × Value)) (i : Nat), (aidx k l i).map (·.2) = alook k l
  | [], _ => rfl
  | p :: l, i => by
    simp only [aidx, alook]
    split
    · rfl
    · exact aidx_alook k l (i + 1)
theorem aidx_some {k : κ} : ∀ {l : List (κ × Value)} {i j : Nat} {v : Value}, aidx k l i = some (j, v) → i ≤ j ∧ l[j - i]? = some (k, v) ∧ (∀ v', l.set (j - i) (k, v') = aset k v' l) ∧ l.eraseIdx (j - i) = adel k l
  | [], i, j, v, h => by simp [aidx] at h
  | p :: l, i, j, v, h => by
    simp only [aidx] at h
    split at h
    · rename_i hk
      cases h
      refine ⟨Nat.le_refl _, by simp [hk], fun v' => by simp [aset, hk], by simp [adel, hk]⟩
    · rename_i hk
      obtain ⟨h1, h2, h3, h4⟩ := aidx_some h
      have e : j - i = (j - (i + 1)) + 1 := by omega
      refine ⟨by omega, by rw [e]; simpa using h2, fun v' => by rw [e]; simp [aset, hk, h3], by rw [e]; simp [adel, hk, h4]⟩
theorem aidx_none {k : κ} : ∀ {l : List (κ × Value)} {i : Nat}, aidx k l i = none → alook k l = none ∧ (∀ v, aset k v l = l ++ [(k, v)]) ∧ adel k l = l
  | [], _, _ => ⟨rfl, fun _ => rfl, rfl⟩
  | p :: l, i, h => by
    simp only [aidx] at h
    split at h
    · cases h
    · rename_i hk
      obtain ⟨h1, h2, h3⟩ := aidx_none h
      exact ⟨by simp [alook, hk, h1], fun v => by simp [aset, hk, h2], by simp [adel, hk, h3]⟩
/-- what a look-up answers -/
def lkV (c : Bool) (z : Value) : Option Value → Value
  | some v => bif c then .tuple #[v, .bool true] else v
  | none => bif c then .tuple #[z, .bool false] else z
variable {ρ : Nat → Value} {d : Option Tmp} {ty : TypeId} {ps : String} {af : Array Edge} {g : Option (Nat × Bool)} {s : Sy} {L : List Hp} {K : Value → World → Prop}
theorem x_lookup {t et : TypeId} {x y : Operand} {m : Nat} {es : Array MapEntry} {cl : Nat} {l : List (κ × Value)} {k : κ} {z : Value} {sz by_ : Nat} {c : Bool} (T : KT P kt κ) (ht : P.underlying t = some (.map kt et)) (hy : Ty P et z sz by_) (hx : ev ρ x = .map (some m)) (hk : ev ρ y = T.kv k) (hm : w.heap[m]? = some (.map es cl)) (hv : MV T.kv es l) :
    (execOp (ev ρ) ⟨d, .lookup t x y c, ty, ps, af, g⟩).run P w = .ok (.value (lkV c z (alook k l))) w := by
  simp only [execOp, Instr.lookup, Sem.run_bind, run_under ht, Result.andThen, hx, hk]
  simp only [getObj, Sem.run, hm, Sem.run_bind, Result.andThen, Sem.run_pure, T.chk, run_findKey (T := T) hv k]
  rw [← aidx_alook k l 0]
  cases aidx k l 0 with
  | none => cases c <;> simp [Sem.run_bind, hy.zero, Result.andThen, Sem.run_pure, lkV]
  | some p => cases c <;> simp [Sem.run_bind, Result.andThen, Sem.run_pure, lkV]
theorem x_lookupNil {t et : TypeId} {x y : Operand} {k : κ} {z : Value} {sz by_ : Nat} {c : Bool} (T : KT P kt κ) (ht : P.underlying t = some (.map kt et)) (hy : Ty P et z sz by_) (hx : ev ρ x = .map none) (hk : ev ρ y = T.kv k) :
    (execOp (ev ρ) ⟨d, .lookup t x y c, ty, ps, af, g⟩).run P w = .ok (.value (lkV c z none)) w := by
  simp only [execOp, Instr.lookup, Sem.run_bind, run_under ht, Result.andThen, hx, hk, Sem.run_pure, T.chk]
  have := run_findKey (P := P) (w := w) (T := T) (es := #[]) (l := []) rfl k
  simp only [this, aidx]
  cases c <;> simp [Sem.run_bind, hy.zero, Result.andThen, Sem.run_pure, lkV]
theorem Mp.obj {b : Nat} {l : List (κ × Value)} (T : KT P kt κ) (H : Hd s w L) (i : Nat) (hi : L[i]? = some (Mp T b l)) : ∃ es cl, w.heap[b]? = some (.map es cl) ∧ MV T.kv es l := by
  obtain ⟨h, h1, ⟨es, cl⟩, h2, h3⟩ := H.fact_at i hi
  exact ⟨es, cl, h1 _ _ h3, h2.1⟩
omit [DecidableEq κ] in
theorem MV.size {kv : κ → Value} {es : Array MapEntry} {l : List (κ × Value)} (h : MV kv es l) : es.size = l.length := by
  have := congrArg List.length h
  simpa using this
theorem Mp.made {b : Nat} (T : KT P kt κ) : ∀ h, pt b (.map #[] 0) h → Mp T b [] h := fun h hp => ⟨(#[], 0), ⟨rfl, by simp [Stamps]⟩, hp⟩
theorem s_mapUpdate {t et : TypeId} {x y u : Operand} {b : Nat} {l : List (κ × Value)} {k : κ} {v : Value} (T : KT P kt κ) (ht : P.underlying t = some (.map kt et)) (i : Nat) (hi : L[i]? = some (Mp T b l)) (hx : ev ρ x = .map (some b)) (hk : ev ρ y = T.kv k) (hu : ev ρ u = v)
    (H : Hd s w L) (kk : ∀ w', Hd s w' (L.set i (Mp T b (aset k v l))) → K undef w') : St P ⟨d, .mapUpdate t x y u, ty, ps, af, g⟩ ρ w K := by
  refine ⟨trivial, ?_⟩
  obtain ⟨⟨es, cl⟩, ⟨hv, hs⟩, H1⟩ := Hd.opn (φ := fun q : Array MapEntry × Nat => MV T.kv q.1 l ∧ Stamps q.1 q.2) (q := fun q => pt b (.map q.1 q.2)) (H.pick i hi) (fun x hx => hx)
  have hm := H1.obj 0 rfl
  cases hf : aidx k l 0 with
  | none =>
    obtain ⟨h1, h2, h3⟩ := aidx_none hf
    have : (execOp (ev ρ) ⟨d, .mapUpdate t x y u, ty, ps, af, g⟩).run P w = .ok .skip (w.putObj b (.map (es.push { key := T.kv k, val := v, born := cl }) (cl + 1))) := by
      simp only [execOp, Instr.mapUpdate, Sem.run_bind, run_under ht, Result.andThen, hx, hk, hu]
      simp only [getObj, Sem.run, hm, Sem.run_bind, Result.andThen, Sem.run_pure, T.chk, run_findKey (T := T) hv k, hf]
      simp [setObj, Sem.run, hm, World.putObj, Result.andThen, Sem.run_pure]
    rw [this]
    refine kk _ (Hd.back hi (Hd.weak (H1.putObj 0 rfl _) fun h hp => ⟨(es.push ⟨T.kv k, v, cl⟩, cl + 1), ⟨?_, ?_, ?_⟩, hp⟩))
    · show List.map _ (es.push _).toList = _
      rw [h2, List.map_append, Array.toList_push, List.map_append, show es.toList.map (fun e => (e.key, e.val)) = _ from hv]; rfl
    · show (List.map _ (es.push _).toList).Nodup
      rw [Array.toList_push, List.map_append]
      refine List.nodup_append.2 ⟨hs.1, by simp, ?_⟩
      intro a ha c hc e
      simp at hc; subst hc; subst e
      obtain ⟨e, he, h5⟩ := List.mem_map.1 ha
      have := hs.2 e he
      omega
    · show ∀ e ∈ (es.push ⟨T.kv k, v, cl⟩).toList, e.born < cl + 1
      intro e he
      rw [Array.toList_push] at he
      rcases List.mem_append.1 he with he | he
      · have := hs.2 e he; omega
      · simp at he; subst he; simp
  | some jv =>
    obtain ⟨j, v0⟩ := jv
    obtain ⟨_, h2, h3, h4⟩ := aidx_some hf
    simp only [Nat.sub_zero] at h2 h3 h4
    have hsz := MV.size hv
    have hj : j < es.size := by rw [hsz]; exact (List.getElem?_eq_some_iff.1 h2).1
    have hkey : (es[j]).key = T.kv k ∧ (es[j]).val = v0 := by
      have e1 : (es.toList.map (fun e => (e.key, e.val)))[j]? = (l.map fun p => (T.kv p.1, p.2))[j]? := by rw [show es.toList.map (fun e => (e.key, e.val)) = _ from hv]
      rw [List.getElem?_map, List.getElem?_map, h2, Array.getElem?_toList, Array.getElem?_eq_getElem hj] at e1
      simpa using e1
    have hst : (Instr.keyThatStays (T.kv k) (T.kv k)).run P w = .ok (T.kv k) w := by
      simp [Instr.keyThatStays, T.bits, Sem.run_pure]
    have hrun : (execOp (ev ρ) ⟨d, .mapUpdate t x y u, ty, ps, af, g⟩).run P w = .ok .skip (w.putObj b (.map (es.modify j fun e => { e with key := T.kv k, val := v }) cl)) := by
      simp only [execOp, Instr.mapUpdate, Sem.run_bind, run_under ht, Result.andThen, hx, hk, hu]
      simp only [getObj, Sem.run, hm, Sem.run_bind, Result.andThen, Sem.run_pure, T.chk, run_findKey (T := T) hv k, hf]
      rw [Array.getElem?_eq_getElem hj]
      simp only [Option.map_some, Option.getD_some, hkey.1, hst]
      simp [setObj, Sem.run, hm, World.putObj, Result.andThen, Sem.run_pure]
    rw [hrun]
    have hml : (es.modify j fun e => { e with key := T.kv k, val := v }).toList = es.toList.set j { es[j] with key := T.kv k, val := v } := by
      apply List.ext_getElem?
      intro q
      rw [Array.getElem?_toList, Array.getElem?_modify, List.getElem?_set, Array.getElem?_toList]
      by_cases e : j = q
      · subst e; simp [hj]
      · simp [e]
    refine kk _ (Hd.back hi (Hd.weak (H1.putObj 0 rfl _) fun h hp => ⟨(es.modify j fun e => { e with key := T.kv k, val := v }, cl), ⟨?_, ?_, ?_⟩, hp⟩))
    · show List.map _ (es.modify j _).toList = _
      rw [hml, List.map_set, ← h3, List.map_set, show es.toList.map (fun e => (e.key, e.val)) = _ from hv]
    · have : (es.toList.set j { es[j] with key := T.kv k, val := v }).map (·.born) = es.toList.map (·.born) := by
        rw [List.map_set]
        apply List.ext_getElem?
        intro q
        rw [List.getElem?_set]
        split
        · rename_i e; subst e; simp [hj]
        · rfl
      show (List.map _ (es.modify j fun e => { e with key := T.kv k, val := v }).toList).Nodup
      rw [hml, this]; exact hs.1
    · show ∀ e ∈ (es.modify j fun e => { e with key := T.kv k, val := v }).toList, e.born < cl
      intro e he
      rw [hml] at he
      rcases List.mem_or_eq_of_mem_set he with he | rfl
      · exact hs.2 e he
      · exact hs.2 es[j] (by simp)
end
end KE
set_option linter.unusedVariables false
set_option linter.unusedSimpArgs false
namespace KE
open Go Go.RowKit

/-! ### a range over a function -/
def setP (ρ : Nat → Value) (ps : List Tmp) (vs : List Value) : Nat → Value := (ps.zip vs).foldl (fun ρ p => upd ρ p.1 p.2) ρ
/-- what yield promises to an iterator that tells xs: E x vs: the values vs stand for the element x, with what they own -/
def YS {α : Type} (P : Program) (s : Sy) (l : Nat) (E : α → List Value → Hp) (xs : List α) (J X : List α → Hp) : Prop :=
  ∀ pre x rest vs w L', xs = pre ++ x :: rest → Hd s w (J pre :: E x vs :: L') →
    YY P l vs.toArray w fun v w' => (v = .bool true ∧ Hd s w' (J (pre ++ [x]) :: L')) ∨ (v = .bool false ∧ Hd s w' (X (pre ++ [x]) :: L'))
/-- an iterator: function f, with what it has captured; A: what it needs, B: what it leaves -/
def IT {α : Type} (P : Program) (s : Sy) (f : FuncId) (caps : List Value) (E : α → List Value → Hp) (xs : List α) (A : Hp) (B : List α → Hp) : Prop :=
  ∀ l J X w L, YS P s l E xs J X → Hd s w (J [] :: A :: L) → CC P f (.func (.yield l) #[] #[] :: caps).toArray w fun _ w' =>
    Hd s w' (J xs :: B xs :: L) ∨ ∃ pre x rest, xs = pre ++ x :: rest ∧ Hd s w' (X (pre ++ [x]) :: B (pre ++ [x]) :: L)
/-- the loop's record -/
def LR (N : Nat) (ρ : Nat → Value) (ps : Array Tmp) (asg body : Code) (l : Nat) (st : LoopState) (pd : Option Code) : Hp := fun h =>
  ∃ rec : Loop, (rec.state = st ∧ rec.pending = pd ∧ rec.params = ps ∧ rec.assign = asg ∧ rec.body = body ∧ rec.tmps.size = N ∧ ∀ k, rec.tmps.getD k undef = ρ k) ∧ pt l (.loop rec) h
def roundE (s : Sy) (I : Hp) (X : Code → Hp) (L : List Hp) : QE
  | .normal, _, _, w => Hd s w (I :: L)
  | .ret, _, _, w => Hd s w (X .ret :: L)
  | .exit id, _, _, w => Hd s w (X (.exit id) :: L)
  | .goto t, _, _, w => Hd s w (X (.goto t) :: L)
  | _, _, _, _ => False
def noE (K : (Nat → Value) → List Nat → World → Prop) : QE
  | .normal => K
  | _ => fun _ _ _ => False

theorem setP_fits {N : Nat} : ∀ (ps : List Tmp) (vs : List Value) (ρ : Nat → Value) (tmps : Array Value), (∀ p ∈ ps, p < N) → tmps.size = N → (∀ k, tmps.getD k undef = ρ k) →
    ((ps.zip vs).foldl (fun t (p : Tmp × Value) => t.setIfInBounds p.1 p.2) tmps).size = N ∧ ∀ k, ((ps.zip vs).foldl (fun t (p : Tmp × Value) => t.setIfInBounds p.1 p.2) tmps).getD k undef = setP ρ ps vs k
  | [], vs, ρ, tmps, _, h1, h2 => ⟨h1, h2⟩
  | p :: ps, [], ρ, tmps, _, h1, h2 => ⟨h1, h2⟩
  | p :: ps, v :: vs, ρ, tmps, hp, h1, h2 => by
    have hlt := hp p List.mem_cons_self
    have := setP_fits ps vs (upd ρ p v) (tmps.setIfInBounds p v) (fun q hq => hp q (List.mem_cons_of_mem _ hq)) (by simp [h1]) (fun k => by
      simp only [upd]
      by_cases e : k = p
      · subst e; simp [h1, hlt, beq_self]
      · rw [beq_ne e, ← h2 k]
        simp [Array.getElem?_setIfInBounds_ne (Ne.symm e)])
    simpa [setP] using this

section
variable {α : Type} {P : Program} {N : Nat} {Q : QE} {ρ : Nat → Value} {ds : List Nat} {w : World} {s : Sy}
/-- the body's proof is a promise of yield -/
theorem YS.of {l : Nat} {ps : Array Tmp} {asg body : Code} {E : α → List Value → Hp} {xs : List α} {I : List α → Hp} {X : Code → List α → Hp} (hps : ∀ p ∈ ps.toList, p < N) (hE : ∀ x vs h, E x vs h → vs.length = ps.size)
    (hb : ∀ pre x rest vs w L' L2, xs = pre ++ x :: rest → (∀ w A', Hd s w (A' ++ L2) → ∃ rec, w.heap[l]? = some (.loop rec)) → Hd s w (I pre :: E x vs :: L') →
      WC P (some l) N asg (noE fun ρ1 ds1 w1 => (∃ A' : List Hp, Hd s w1 (A' ++ L')) ∧ ∀ w2, (∀ A' : List Hp, Hd s w1 (A' ++ L') → Hd s w2 (A' ++ L2)) → WC P (some l) N body (roundE s (I (pre ++ [x])) (fun c => X c (pre ++ [x])) L2) ρ1 ds1 w2) (setP ρ ps.toList vs) [] w) :
    YS P s l E xs (fun pre => star (LR N ρ ps asg body l .ready none) (I pre)) (fun pre => fun h => ∃ c, star (LR N ρ ps asg body l .done (some c)) (X c pre) h) := by
  intro pre x rest vs w L' hxs H
  -- the record
  have H1 : Hd s w (LR N ρ ps asg body l .ready none :: I pre :: E x vs :: L') := H.unstar
  obtain ⟨rec, ⟨hst, hpd, hpa, has, hbo, hsz, hfit⟩, H2⟩ := Hd.opn (q := fun rec => pt l (.loop rec)) H1 (fun x hx => hx)
  obtain ⟨rst, rpd, rfn, rtm, rpa, ras, rbo, rdf⟩ := rec
  simp only at hst hpd hpa has hbo hsz hfit
  subst hst hpd hpa has hbo
  have hl := H2.obj 0 rfl
  have hvs : vs.length = rpa.size := by
    obtain ⟨h, _, he⟩ := H1.fact_at 2 rfl
    exact hE x vs h he
  have hfold := setP_fits (N := N) rpa.toList vs ρ rtm hps hsz hfit
  refine ⟨rfn, (rpa.zip vs.toArray).foldl (fun tmps (t, a) => tmps.setIfInBounds t a) rtm, ras, rbo, run_yield hl (by simpa using hvs), ?_⟩
  refine roundIn_of_wpIn (F := Fe none) trivial ?_
  have htm : (rpa.zip vs.toArray).foldl (fun tmps (t, a) => tmps.setIfInBounds t a) rtm = (rpa.toList.zip vs).foldl (fun t (p : Tmp × Value) => t.setIfInBounds p.1 p.2) rtm := by
    rw [← Array.foldl_toList]; simp
  have hF : Fits N { tmps := (rpa.zip vs.toArray).foldl (fun tmps (t, a) => tmps.setIfInBounds t a) rtm, defers := [] } (setP ρ rpa.toList vs) [] := by
    rw [htm]; exact ⟨hfold.1, hfold.2, rfl⟩
  have H3 : Hd s w (I pre :: E x vs :: pt l (.loop ⟨.ready, none, rfn, rtm, rpa, ras, rbo, rdf⟩) :: L') := H2.arr_head3
  have hrec2 : ∀ (w : World) (A' : List Hp), Hd s w (A' ++ pt l (.loop ⟨.busy, none, rfn, rtm, rpa, ras, rbo, rdf⟩) :: L') → ∃ rec, w.heap[l]? = some (.loop rec) := fun w A' h => ⟨⟨.busy, none, rfn, rtm, rpa, ras, rbo, rdf⟩, h.obj A'.length (by simp)⟩
  have := hb pre x rest vs w (pt l (.loop ⟨.ready, none, rfn, rtm, rpa, ras, rbo, rdf⟩) :: L') (pt l (.loop ⟨.busy, none, rfn, rtm, rpa, ras, rbo, rdf⟩) :: L') hxs hrec2 H3 _ hF
  refine wpIn_mono this ?_
  rintro e a w1 ⟨ρ1, ds1, f1, q1⟩
  cases e with
  | normal =>
    simp only [noE] at q1
    obtain ⟨⟨A', hA⟩, q1⟩ := q1
    have hl1 : w1.heap[l]? = some (.loop ⟨.ready, none, rfn, rtm, rpa, ras, rbo, rdf⟩) := hA.obj A'.length (by simp)
    show ∃ w₂, _
    refine ⟨_, run_beginRound hl1 rfl, ?_⟩
    have := q1 (w1.putObj l (.loop ⟨.busy, none, rfn, rtm, rpa, ras, rbo, rdf⟩)) (fun A' h => by
      have h' := Hd.putObj (b := l) (o := .loop ⟨.ready, none, rfn, rtm, rpa, ras, rbo, rdf⟩) h A'.length (by simp) (.loop ⟨.busy, none, rfn, rtm, rpa, ras, rbo, rdf⟩)
      simpa using h') a f1
    refine wpIn_mono this ?_
    rintro e2 a2 w3 ⟨ρ2, ds2, f2, q2⟩
    have fin : ∀ (p : Hp) (j : Option Code), Hd s w3 (p :: pt l (.loop ⟨.busy, none, rfn, rtm, rpa, ras, rbo, rdf⟩) :: L') → ∃ v w', (Instr.endRound l j).run P w3 = .ok v w' ∧ v = .bool j.isNone ∧
        Hd s w' (p :: pt l (.loop ⟨if j.isNone then .ready else .done, j, rfn, rtm, rpa, ras, rbo, rdf⟩) :: L') := fun p j h =>
      ⟨_, _, run_endRound j (h.obj 1 rfl), rfl, h.putObj 1 rfl _⟩
    cases e2 with
    | normal =>
      obtain ⟨v, w', r1, r2, r3⟩ := fin _ none q2
      refine ⟨v, w', r1, v, rfl, .inl ⟨r2, ?_⟩⟩
      refine Hd.star (Hd.weak (r3.perm (List.Perm.swap _ _ _)) fun h hp => ⟨_, ⟨rfl, rfl, rfl, rfl, rfl, hsz, hfit⟩, hp⟩)
    | ret =>
      obtain ⟨v, w', r1, r2, r3⟩ := fin _ (some .ret) q2
      refine ⟨v, w', r1, v, rfl, .inr ⟨r2, ?_⟩⟩
      refine Hd.weak (Hd.star (Hd.weak (r3.perm (List.Perm.swap _ _ _)) fun h hp => (⟨_, ⟨rfl, rfl, rfl, rfl, rfl, hsz, hfit⟩, hp⟩ : LR N ρ rpa ras rbo l .done (some .ret) h))) fun h hh => ⟨.ret, hh⟩
    | exit id =>
      obtain ⟨v, w', r1, r2, r3⟩ := fin _ (some (.exit id)) q2
      refine ⟨v, w', r1, v, rfl, .inr ⟨r2, ?_⟩⟩
      refine Hd.weak (Hd.star (Hd.weak (r3.perm (List.Perm.swap _ _ _)) fun h hp => (⟨_, ⟨rfl, rfl, rfl, rfl, rfl, hsz, hfit⟩, hp⟩ : LR N ρ rpa ras rbo l .done (some (.exit id)) h))) fun h hh => ⟨.exit id, hh⟩
    | goto t =>
      obtain ⟨v, w', r1, r2, r3⟩ := fin _ (some (.goto t)) q2
      refine ⟨v, w', r1, v, rfl, .inr ⟨r2, ?_⟩⟩
      refine Hd.weak (Hd.star (Hd.weak (r3.perm (List.Perm.swap _ _ _)) fun h hp => (⟨_, ⟨rfl, rfl, rfl, rfl, rfl, hsz, hfit⟩, hp⟩ : LR N ρ rpa ras rbo l .done (some (.goto t)) h))) fun h hh => ⟨.goto t, hh⟩
    | panic c => exact q2
    | outgrown => exact q2
  | exit id => exact q1
  | goto t => exact q1
  | ret => exact q1
  | panic c => exact q1
  | outgrown => exact q1
/-- for .. := range g { body }, at the function's own level -/
theorem WC.rangeFn0 {g : Operand} {ps : Array Tmp} {asg body : Code} {f : FuncId} {caps : List Value} {E : α → List Value → Hp} {xs : List α} {A : Hp} {B : List α → Hp} {I : List α → Hp} {X : Code → List α → Hp} {L : List Hp}
    (hg : ev ρ g = .func (.func f) #[] caps.toArray) (hc : Cal P f) (hps : ∀ p ∈ ps.toList, p < N) (hE : ∀ x vs h, E x vs h → vs.length = ps.size) (hit : ∀ l, YS P s l E xs (fun pre => star (LR N ρ ps asg body l .ready none) (I pre)) (fun pre => fun h => ∃ c, star (LR N ρ ps asg body l .done (some c)) (X c pre) h) → ∀ w L, Hd s w (star (LR N ρ ps asg body l .ready none) (I []) :: A :: L) → CC P f (.func (.yield l) #[] #[] :: caps).toArray w fun _ w' =>
      Hd s w' (star (LR N ρ ps asg body l .ready none) (I xs) :: B xs :: L) ∨ ∃ pre x rest, xs = pre ++ x :: rest ∧ Hd s w' ((fun h => ∃ c, star (LR N ρ ps asg body l .done (some c)) (X c (pre ++ [x])) h) :: B (pre ++ [x]) :: L)) (H : Hd s w (I [] :: A :: L))
    (hb : ∀ l pre x rest vs w L' L2, xs = pre ++ x :: rest → (∀ w A', Hd s w (A' ++ L2) → ∃ rec, w.heap[l]? = some (.loop rec)) → Hd s w (I pre :: E x vs :: L') →
      WC P (some l) N asg (noE fun ρ1 ds1 w1 => (∃ A' : List Hp, Hd s w1 (A' ++ L')) ∧ ∀ w2, (∀ A' : List Hp, Hd s w1 (A' ++ L') → Hd s w2 (A' ++ L2)) → WC P (some l) N body (roundE s (I (pre ++ [x])) (fun c => X c (pre ++ [x])) L2) ρ1 ds1 w2) (setP ρ ps.toList vs) [] w)
    (hdone : ∀ w m, Hd s w (I xs :: B xs :: pt m (.deferred (some [])) :: L) → Q .normal ρ (m :: ds) w)
    (hstop : ∀ w m c pre x rest, xs = pre ++ x :: rest → Hd s w (X c (pre ++ [x]) :: B (pre ++ [x]) :: pt m (.deferred (some [])) :: L) → WC P none N c Q ρ (m :: ds) w) :
    WC P none N (.rangeFunc g ps asg body) Q ρ ds w := fun a ha => by
  refine wpIn_rangeFunc fun fn _ => ?_
  have H1 := H.alloc (.deferred (some []))
  have H2 := H1.alloc (.loop { state := .ready, pending := none, fn, tmps := a.tmps, params := ps, assign := asg, body, defers := w.heap.size })
  simp only [World.size_alloc] at H2
  have hres : (resolve a.eval (rangeCall g (w.heap.size + 1)) 0).run P ((w.alloc (.deferred (some []))).alloc (.loop { state := .ready, pending := none, fn, tmps := a.tmps, params := ps, assign := asg, body, defers := w.heap.size })) =
      .ok { target := .fn (.func f) caps.toArray, args := #[.func (.yield (w.heap.size + 1)) #[] #[]] } ((w.alloc (.deferred (some []))).alloc (.loop { state := .ready, pending := none, fn, tmps := a.tmps, params := ps, assign := asg, body, defers := w.heap.size })) := by
    simp only [resolve, rangeCall, ha.eval, hg, Deferred.ofValue]
    have e1 : (#[] : Array Value) ++ Array.map (ev ρ) #[Operand.const (Value.func (Fn.yield (w.heap.size + 1)) #[] #[])] = #[.func (.yield (w.heap.size + 1)) #[] #[]] := by simp [ev]
    rw [e1]; rfl
  have hen := run_enterLoop_outer (P := P) (w := w) fn a.tmps ps asg body
  generalize (w.alloc (.deferred (some []))).alloc (.loop { state := .ready, pending := none, fn, tmps := a.tmps, params := ps, assign := asg, body, defers := w.heap.size }) = W at hres H2 hen
  refine ⟨w.heap.size + 1, [mk w.heap.size], W, _, W, f, (.func (.yield (w.heap.size + 1)) #[] #[] :: caps).toArray, W, hen, hres, fun _ _ => trivial, ?_, by simp [Fe], ?_⟩
  · simp only [invoke]
    rw [run_callFunc hc]
    simp
  · have hys := YS.of (l := w.heap.size + 1) (ps := ps) (asg := asg) (body := body) (E := E) (xs := xs) (I := I) (X := X) (ρ := ρ) (N := N) (P := P) (s := s) hps hE (hb (w.heap.size + 1))
    have H3 : Hd s _ (star (LR N ρ ps asg body (w.heap.size + 1) .ready none) (I []) :: A :: pt w.heap.size (.deferred (some [])) :: L) :=
      Hd.star (Hd.weak (H2.arr_tail3) fun h hp => ⟨_, ⟨rfl, rfl, rfl, rfl, rfl, ha.1, ha.2.1⟩, hp⟩)
    refine CallsIn.mono (hit _ hys _ _ H3) ?_
    rintro e w3 ⟨v, rfl, hor⟩
    have hfit : Fits N { a with defers := [mk w.heap.size] ++ a.defers } ρ (w.heap.size :: ds) := ⟨ha.1, ha.2.1, by simp [ha.2.2]⟩
    rcases hor with h | ⟨pre, x, rest, hx, h⟩
    · obtain ⟨rec, ⟨hst, hpd, _⟩, h2⟩ := Hd.opn (q := fun rec => pt (w.heap.size + 1) (.loop rec)) (Hd.unstar h) (fun x hx => hx)
      refine ⟨rec.pending, _, run_endLoop (h2.obj 0 rfl) (by rw [hst]; simp), ?_⟩
      rw [hpd]
      exact ⟨ρ, _, hfit, hdone _ _ (h2.putObj 0 rfl _).drop⟩
    · obtain ⟨c, h⟩ := Hd.unex h
      obtain ⟨rec, ⟨hst, hpd, _⟩, h2⟩ := Hd.opn (q := fun rec => pt (w.heap.size + 1) (.loop rec)) (Hd.unstar h) (fun x hx => hx)
      refine ⟨rec.pending, _, run_endLoop (h2.obj 0 rfl) (by rw [hst]; simp), ?_⟩
      rw [hpd]
      exact hstop _ _ c pre x rest hx (h2.putObj 0 rfl _).drop _ hfit

theorem WC.rangeFn {g : Operand} {ps : Array Tmp} {asg body : Code} {f : FuncId} {caps : List Value} {E : α → List Value → Hp} {xs : List α} {A : Hp} {B : List α → Hp} {I : List α → Hp} {X : Code → List α → Hp} {L : List Hp}
    (hg : ev ρ g = .func (.func f) #[] caps.toArray) (hc : Cal P f) (hps : ∀ p ∈ ps.toList, p < N) (hE : ∀ x vs h, E x vs h → vs.length = ps.size) (hit : IT P s f caps E xs A B) (H : Hd s w (I [] :: A :: L))
    (hb : ∀ l pre x rest vs w L' L2, xs = pre ++ x :: rest → (∀ w A', Hd s w (A' ++ L2) → ∃ rec, w.heap[l]? = some (.loop rec)) → Hd s w (I pre :: E x vs :: L') →
      WC P (some l) N asg (noE fun ρ1 ds1 w1 => (∃ A' : List Hp, Hd s w1 (A' ++ L')) ∧ ∀ w2, (∀ A' : List Hp, Hd s w1 (A' ++ L') → Hd s w2 (A' ++ L2)) → WC P (some l) N body (roundE s (I (pre ++ [x])) (fun c => X c (pre ++ [x])) L2) ρ1 ds1 w2) (setP ρ ps.toList vs) [] w)
    (hdone : ∀ w m, Hd s w (I xs :: B xs :: pt m (.deferred (some [])) :: L) → Q .normal ρ (m :: ds) w)
    (hstop : ∀ w m c pre x rest, xs = pre ++ x :: rest → Hd s w (X c (pre ++ [x]) :: B (pre ++ [x]) :: pt m (.deferred (some [])) :: L) → WC P none N c Q ρ (m :: ds) w) :
    WC P none N (.rangeFunc g ps asg body) Q ρ ds w := WC.rangeFn0 hg hc hps hE (fun l hy w L h => hit l _ _ w L hy h) H hb hdone hstop
theorem star_in {A Z I : Hp} : star A (star Z I) = star Z (star A I) := funext fun h => propext ⟨star_swap, star_swap⟩
theorem star_inE {Z : Hp} {A X : Code → Hp} : (fun h => ∃ c, star (A c) (star Z (X c)) h) = star Z (fun h => ∃ c, star (A c) (X c) h) := funext fun h => propext ⟨fun ⟨c, k⟩ => star_mono (star_swap k) (fun _ h => h) (fun _ k => ⟨c, k⟩), fun ⟨a, b, h1, h2, h3, c, h4⟩ => ⟨c, star_swap ⟨a, b, h1, h2, h3, h4⟩⟩⟩
/-- an iterator that shares Z with the body -/
def ITz {α : Type} (P : Program) (s : Sy) (f : FuncId) (caps : List Value) (E : α → List Value → Hp) (xs : List α) (Z A : Hp) (B : List α → Hp) : Prop :=
  ∀ (l : Nat) (J X : List α → Hp) (w : World) (L : List Hp), YS P s l E xs (fun pre => star Z (J pre)) (fun pre => star Z (X pre)) → Hd s w (star Z (J []) :: A :: L) → CC P f (.func (.yield l) #[] #[] :: caps).toArray w fun _ w' =>
    Hd s w' (star Z (J xs) :: B xs :: L) ∨ ∃ pre x rest, xs = pre ++ x :: rest ∧ Hd s w' (star Z (X (pre ++ [x])) :: B (pre ++ [x]) :: L)
theorem WC.rangeFnZ {g : Operand} {ps : Array Tmp} {asg body : Code} {f : FuncId} {caps : List Value} {E : α → List Value → Hp} {xs : List α} {A : Hp} {B : List α → Hp} {I : List α → Hp} {X : Code → List α → Hp} {L : List Hp} {Z : Hp}
    (hg : ev ρ g = .func (.func f) #[] caps.toArray) (hc : Cal P f) (hps : ∀ p ∈ ps.toList, p < N) (hE : ∀ x vs h, E x vs h → vs.length = ps.size) (hit : ITz P s f caps E xs Z A B) (H : Hd s w (star Z (I []) :: A :: L))
    (hb : ∀ l pre x rest vs w L' L2, xs = pre ++ x :: rest → (∀ w A', Hd s w (A' ++ L2) → ∃ rec, w.heap[l]? = some (.loop rec)) → Hd s w (star Z (I pre) :: E x vs :: L') →
      WC P (some l) N asg (noE fun ρ1 ds1 w1 => (∃ A' : List Hp, Hd s w1 (A' ++ L')) ∧ ∀ w2, (∀ A' : List Hp, Hd s w1 (A' ++ L') → Hd s w2 (A' ++ L2)) → WC P (some l) N body (roundE s (star Z (I (pre ++ [x]))) (fun c => star Z (X c (pre ++ [x]))) L2) ρ1 ds1 w2) (setP ρ ps.toList vs) [] w)
    (hdone : ∀ w m, Hd s w (star Z (I xs) :: B xs :: pt m (.deferred (some [])) :: L) → Q .normal ρ (m :: ds) w)
    (hstop : ∀ w m c pre x rest, xs = pre ++ x :: rest → Hd s w (star Z (X c (pre ++ [x])) :: B (pre ++ [x]) :: pt m (.deferred (some [])) :: L) → WC P none N c Q ρ (m :: ds) w) :
    WC P none N (.rangeFunc g ps asg body) Q ρ ds w := WC.rangeFn0 (I := fun pre => star Z (I pre)) (X := fun c pre => star Z (X c pre)) hg hc hps hE (fun l hy w L h => by
      have := hit l (fun pre => star (LR N ρ ps asg body l .ready none) (I pre)) (fun pre => fun h => ∃ c, star (LR N ρ ps asg body l .done (some c)) (X c pre) h) w L
      have eI : ∀ pre, star (LR N ρ ps asg body l .ready none) (star Z (I pre)) = star Z (star (LR N ρ ps asg body l .ready none) (I pre)) := fun _ => star_in
      have eX : ∀ pre, (fun h => ∃ c, star (LR N ρ ps asg body l .done (some c)) (star Z (X c pre)) h) = star Z (fun h => ∃ c, star (LR N ρ ps asg body l .done (some c)) (X c pre) h) := fun _ => star_inE
      refine CC.mono (this ((congr (congrArg (YS P s l E xs) (funext eI)) (funext eX)).mp hy) (by rw [← eI]; exact h)) fun v w' k => ?_
      rcases k with k | ⟨pre, x, rest, hx, k⟩
      · left; rw [eI]; exact k
      · right; refine ⟨pre, x, rest, hx, ?_⟩; rw [eX]; exact k) H hb hdone hstop
end
end KE
set_option linter.unusedVariables false
set_option linter.unusedSimpArgs false
namespace KE
open Go Go.RowKit

theorem Ty.of {P : Program} {t : TypeId} {z : Value} {sz b : Nat} (h : (P.info? t).map (fun i => (i.zero, i.size, i.bytes)) = some (some z, sz, b)) : Ty P t z sz b := by
  cases hi : P.info? t with
  | none => rw [hi] at h; cases h
  | some i => rw [hi] at h; simp at h; exact ⟨i, hi, h.1, h.2.1, h.2.2⟩
/-! ends -/
section
variable {P : Program} {fn : Func} {R : Value → World → Prop} {ρ : Nat → Value} {w : World} {ds : List Nat} {s : Sy} {L : List Hp}
theorem RetM.none' (h : fn.results = #[]) (hR : R (.tuple #[]) w) : RetM P fn R ρ [] w := fun tmps ht => ⟨_, results_none h tmps P w, hR⟩
theorem RetM.one {t : Tmp} {v : Value} (h : fn.results = #[.tmp t]) (hv : ρ t = v) (hR : R v w) : RetM P fn R ρ [] w := fun tmps ht => ⟨_, results_tmp h tmps P w, by rw [ht, hv]; exact hR⟩
theorem RetM.two {t u : Tmp} {v1 v2 : Value} (h : fn.results = #[.tmp t, .tmp u]) (h1 : ρ t = v1) (h2 : ρ u = v2) (hR : R (.tuple #[v1, v2]) w) : RetM P fn R ρ [] w := fun tmps ht => ⟨_, results_tmp2 h tmps P w, by rw [ht, ht, h1, h2]; exact hR⟩
theorem RetM.mark {m i : Nat} (H : Hd s w L) (hi : L[i]? = some (pt m (.deferred (some [])))) (k : ∀ w', Hd s w' (L.set i (pt m (.deferred none))) → RetM P fn R ρ ds w') : RetM P fn R ρ (m :: ds) w :=
  ⟨H.obj i hi, k _ (H.putObj i hi _)⟩
/-- two results in boxes -/
theorem RetM.cell2 {a b : Tmp} {ta tb : TypeId} {pa pb : Addr} {da db : TypeDesc} {v1 v2 : Value} (h : fn.results = #[.cell a ta, .cell b tb]) (ha : ρ a = .pointer (some pa)) (hb : ρ b = .pointer (some pb)) (ua : P.underlying ta = some da) (ga : aggD da = false) (ub : P.underlying tb = some db) (gb : aggD db = false)
    (ca : w.cell? pa = some v1) (cb : w.cell? pb = some v2) (hR : R (.tuple #[v1, v2]) w) : RetM P fn R ρ [] w := fun tmps ht => by
  refine ⟨_, ?_, hR⟩
  have h1 := ht a
  have h2 := ht b
  rw [ha] at h1
  rw [hb] at h2
  have e1 := run_loadVar1 (P := P) ua ga ca
  have e2 := run_loadVar1 (P := P) ub gb cb
  simp only [Array.getD_eq_getD_getElem?] at h1 h2
  simp [results, h, Sem.run_bind, h1, h2, asAddr, Result.andThen, Sem.run_pure, e1, e2]
theorem RetM.cell1 {a : Tmp} {ta : TypeId} {pa : Addr} {da : TypeDesc} {v1 : Value} (h : fn.results = #[.cell a ta]) (ha : ρ a = .pointer (some pa)) (ua : P.underlying ta = some da) (ga : aggD da = false)
    (ca : w.cell? pa = some v1) (hR : R v1 w) : RetM P fn R ρ [] w := fun tmps ht => by
  refine ⟨_, ?_, hR⟩
  have h1 := ht a
  rw [ha] at h1
  have e1 := run_loadVar1 (P := P) ua ga ca
  simp only [Array.getD_eq_getD_getElem?] at h1
  simp [results, h, Sem.run_bind, h1, asAddr, Result.andThen, Sem.run_pure, e1]
end
/-! steps, their places written out -/
section
variable {P : Program} {r : Option Nat} {N : Nat} {Q : QE} {ρ : Nat → Value} {ds : List Nat} {w : World} {ops : Array Oper} {rest : List Oper} {d : Nat} {op : Op} {ty : TypeId} {ps : String} {af : Array Edge} {g : Option (Nat × Bool)} {v : Value}
theorem ev_c {v : Value} : ev ρ (.const v) = v := rfl
/-- a reading -/
theorem l_rd (hd : Nat.blt d N = true) (hp : plainOp ⟨some d, op, ty, ps, af, none⟩ = true) (hx : (execOp (ev ρ) ⟨some d, op, ty, ps, af, none⟩).run P w = .ok (.value v) w) (k : WL P r N ops Q rest (upd ρ d v) ds w) : WL P r N ops Q (⟨some d, op, ty, ps, af, none⟩ :: rest) ρ ds w := WL.rd rfl hd hp hx k
theorem l_st (hd : Nat.blt d N = true) (h : St P ⟨some d, op, ty, ps, af, none⟩ ρ w fun v w' => WL P r N ops Q rest (upd ρ d v) ds w') : WL P r N ops Q (⟨some d, op, ty, ps, af, none⟩ :: rest) ρ ds w := WL.st rfl hd h
theorem l_no (h : St P ⟨none, op, ty, ps, af, none⟩ ρ w fun _ w' => WL P r N ops Q rest ρ ds w') : WL P r N ops Q (⟨none, op, ty, ps, af, none⟩ :: rest) ρ ds w := WL.st rfl rfl h
theorem l_gy (hw : Region.wanted ⟨some d, op, ty, ps, af, g⟩ (yieldE ops ρ) = true) (hd : Nat.blt d N = true) (hp : plainOp ⟨some d, op, ty, ps, af, g⟩ = true) (hx : (execOp (ev ρ) ⟨some d, op, ty, ps, af, g⟩).run P w = .ok (.value v) w) (k : WL P r N ops Q rest (upd ρ d v) ds w) : WL P r N ops Q (⟨some d, op, ty, ps, af, g⟩ :: rest) ρ ds w := by
  refine WL.guard_yes hd hw ⟨?_, ?_⟩
  · cases op <;> first | trivial | (simp [plainOp] at hp)
  · rw [hx]; exact k
theorem l_gst (hw : Region.wanted ⟨some d, op, ty, ps, af, g⟩ (yieldE ops ρ) = true) (hd : Nat.blt d N = true) (h : St P ⟨some d, op, ty, ps, af, g⟩ ρ w fun v w' => WL P r N ops Q rest (upd ρ d v) ds w') : WL P r N ops Q (⟨some d, op, ty, ps, af, g⟩ :: rest) ρ ds w := WL.guard_yes hd hw h
theorem l_gn (hw : Region.wanted ⟨some d, op, ty, ps, af, g⟩ (yieldE ops ρ) = false) (hd : Nat.blt d N = true) (k : WL P r N ops Q rest (upd ρ d undef) ds w) : WL P r N ops Q (⟨some d, op, ty, ps, af, g⟩ :: rest) ρ ds w := WL.guard_no hd hw k
theorem l_rdD {p : Prop} [Decidable p] (hd : Nat.blt d N = true) (hp : plainOp ⟨some d, op, ty, ps, af, none⟩ = true) (hx : (execOp (ev ρ) ⟨some d, op, ty, ps, af, none⟩).run P w = .ok (.value (.bool (decide p))) w) (ht : p → WL P r N ops Q rest (upd ρ d (.bool true)) ds w) (hf : ¬p → WL P r N ops Q rest (upd ρ d (.bool false)) ds w) : WL P r N ops Q (⟨some d, op, ty, ps, af, none⟩ :: rest) ρ ds w := by
  refine l_rd hd hp hx ?_
  by_cases h : p
  · rw [decide_eq_true h]; exact ht h
  · rw [decide_eq_false h]; exact hf h
theorem l_gyD {p : Prop} [Decidable p] (hw : Region.wanted ⟨some d, op, ty, ps, af, g⟩ (yieldE ops ρ) = true) (hd : Nat.blt d N = true) (hp : plainOp ⟨some d, op, ty, ps, af, g⟩ = true) (hx : (execOp (ev ρ) ⟨some d, op, ty, ps, af, g⟩).run P w = .ok (.value (.bool (decide p))) w) (ht : p → WL P r N ops Q rest (upd ρ d (.bool true)) ds w) (hf : ¬p → WL P r N ops Q rest (upd ρ d (.bool false)) ds w) : WL P r N ops Q (⟨some d, op, ty, ps, af, g⟩ :: rest) ρ ds w := by
  refine l_gy hw hd hp hx ?_
  by_cases h : p
  · rw [decide_eq_true h]; exact ht h
  · rw [decide_eq_false h]; exact hf h
variable {eff : List Nat} {bef : List (List Nat)} {i : Nat} {can pend : List Nat}
theorem k_rd (ho : ops[i]? = some ⟨some d, op, ty, ps, af, g⟩) (he : eff.contains i = false) (hs : RS P ops ⟨some d, op, ty, ps, af, g⟩ ρ w v) (k : WK P r N ops eff bef Q can (i :: pend) (upd ρ d v) ds w) : WK P r N ops eff bef Q (i :: can) pend ρ ds w := WK.rd ho he hs k
theorem k_st (ho : ops[i]? = some ⟨some d, op, ty, ps, af, g⟩) (he : eff.contains i = true) (hw : Region.wanted ⟨some d, op, ty, ps, af, g⟩ (yieldE ops ρ) = true)
    (k : St P ⟨some d, op, ty, ps, af, g⟩ ρ w fun v w' => Stab P ops (bef.getD i []) pend (upd ρ d v) w' ∧ WK P r N ops eff bef Q can pend (upd ρ d v) ds w') : WK P r N ops eff bef Q (i :: can) pend ρ ds w := WK.ef ho he hw k
theorem k_no (ho : ops[i]? = some ⟨none, op, ty, ps, af, g⟩) (he : eff.contains i = true) (hw : Region.wanted ⟨none, op, ty, ps, af, g⟩ (yieldE ops ρ) = true)
    (k : St P ⟨none, op, ty, ps, af, g⟩ ρ w fun _ w' => Stab P ops (bef.getD i []) pend ρ w' ∧ WK P r N ops eff bef Q can pend ρ ds w') : WK P r N ops eff bef Q (i :: can) pend ρ ds w := WK.ef ho he hw k
theorem k_un (ho : ops[i]? = some ⟨some d, op, ty, ps, af, g⟩) (he : eff.contains i = true) (hw : Region.wanted ⟨some d, op, ty, ps, af, g⟩ (yieldE ops ρ) = false)
    (hs : Stab P ops (bef.getD i []) pend (upd ρ d undef) w) (k : WK P r N ops eff bef Q can pend (upd ρ d undef) ds w) : WK P r N ops eff bef Q (i :: can) pend ρ ds w := WK.un ho he hw hs k
theorem k_unN (ho : ops[i]? = some ⟨none, op, ty, ps, af, g⟩) (he : eff.contains i = true) (hw : Region.wanted ⟨none, op, ty, ps, af, g⟩ (yieldE ops ρ) = false)
    (hs : Stab P ops (bef.getD i []) pend ρ w) (k : WK P r N ops eff bef Q can pend ρ ds w) : WK P r N ops eff bef Q (i :: can) pend ρ ds w := WK.un ho he hw hs k
theorem k_rdD {p : Prop} [Decidable p] (ho : ops[i]? = some ⟨some d, op, ty, ps, af, g⟩) (he : eff.contains i = false) (hw : Region.wanted ⟨some d, op, ty, ps, af, g⟩ (yieldE ops ρ) = true) (hp : plainOp ⟨some d, op, ty, ps, af, g⟩ = true) (hx : (execOp (ev ρ) ⟨some d, op, ty, ps, af, g⟩).run P w = .ok (.value (.bool (decide p))) w)
    (ht : p → WK P r N ops eff bef Q can (i :: pend) (upd ρ d (.bool true)) ds w) (hf : ¬p → WK P r N ops eff bef Q can (i :: pend) (upd ρ d (.bool false)) ds w) : WK P r N ops eff bef Q (i :: can) pend ρ ds w := by
  refine k_rd ho he (RS.yes hp hw hx) ?_
  by_cases h : p
  · rw [decide_eq_true h]; exact ht h
  · rw [decide_eq_false h]; exact hf h
end
/-! tests -/
section
variable {P : Program} {r : Option Nat} {N : Nat} {Q : QE} {ρ : Nat → Value} {ds : List Nat} {w : World} {ops : Array Oper} {rest : List Oper} {o : Oper} {d : Nat}
theorem WL.rdD {p : Prop} [Decidable p] (hg : o.guard = none) (hdd : o.dst = some d) (hd : Nat.blt d N = true) (hp : plainOp o = true) (hx : (execOp (ev ρ) o).run P w = .ok (.value (.bool (decide p))) w) (ht : p → WL P r N ops Q rest (upd ρ d (.bool true)) ds w) (hf : ¬p → WL P r N ops Q rest (upd ρ d (.bool false)) ds w) : WL P r N ops Q (o :: rest) ρ ds w := by
  refine WL.rd hg (by rw [hdd]; exact hd) hp hx ?_
  rw [hdd]
  by_cases h : p
  · rw [decide_eq_true h]; exact ht h
  · rw [decide_eq_false h]; exact hf h
/-- a guarded operation that is carried out -/
theorem wantY {j : Nat} {b : Bool} {t : Tmp} (hg : o.guard = some (j, b)) (hd : (ops[j]?).bind (·.dst) = some t) (hv : ρ t = .bool b) : Region.wanted o (yieldE ops ρ) = true := by
  simp [Region.wanted, hg, yieldE, hd, hv]
theorem wantN {j : Nat} {b : Bool} {t : Tmp} (hg : o.guard = some (j, b)) (hd : (ops[j]?).bind (·.dst) = some t) (hv : ρ t = .bool (!b)) : Region.wanted o (yieldE ops ρ) = false := by
  simp [Region.wanted, hg, yieldE, hd, hv]
theorem wantU {j : Nat} {b : Bool} {t : Tmp} (hg : o.guard = some (j, b)) (hd : (ops[j]?).bind (·.dst) = some t) (hv : ρ t = undef) : Region.wanted o (yieldE ops ρ) = false := by
  simp [Region.wanted, hg, yieldE, hd, hv, undef]
theorem WL.gy {v : Value} (hw : Region.wanted o (yieldE ops ρ) = true) (hd : okD N o.dst = true) (hp : plainOp o = true) (hx : (execOp (ev ρ) o).run P w = .ok (.value v) w) (k : WL P r N ops Q rest (updO ρ o.dst v) ds w) : WL P r N ops Q (o :: rest) ρ ds w := by
  refine WL.guard_yes hd hw ⟨?_, ?_⟩
  · cases ho : o.op <;> simp_all [plainOp]
  · rw [hx]; exact k
theorem WL.gyD {p : Prop} [Decidable p] (hw : Region.wanted o (yieldE ops ρ) = true) (hdd : o.dst = some d) (hd : Nat.blt d N = true) (hp : plainOp o = true) (hx : (execOp (ev ρ) o).run P w = .ok (.value (.bool (decide p))) w) (ht : p → WL P r N ops Q rest (upd ρ d (.bool true)) ds w) (hf : ¬p → WL P r N ops Q rest (upd ρ d (.bool false)) ds w) : WL P r N ops Q (o :: rest) ρ ds w := by
  refine WL.gy hw (by rw [hdd]; exact hd) hp hx ?_
  rw [hdd]
  by_cases h : p
  · rw [decide_eq_true h]; exact ht h
  · rw [decide_eq_false h]; exact hf h
theorem WK.rdD {p : Prop} [Decidable p] {eff : List Nat} {bef : List (List Nat)} {i : Nat} {can pend : List Nat} (ho : ops[i]? = some o) (he : eff.contains i = false) (hdd : o.dst = some d) (hw : Region.wanted o (yieldE ops ρ) = true) (hp : plainOp o = true) (hx : (execOp (ev ρ) o).run P w = .ok (.value (.bool (decide p))) w)
    (ht : p → WK P r N ops eff bef Q can (i :: pend) (upd ρ d (.bool true)) ds w) (hf : ¬p → WK P r N ops eff bef Q can (i :: pend) (upd ρ d (.bool false)) ds w) : WK P r N ops eff bef Q (i :: can) pend ρ ds w := by
  refine WK.rd ho he (RS.yes hp hw hx) ?_
  rw [hdd]
  by_cases h : p
  · rw [decide_eq_true h]; exact ht h
  · rw [decide_eq_false h]; exact hf h
theorem WC.cond1 {c : Operand} {x y : Code} (hc : ev ρ c = .bool true) (h : WC P r N x Q ρ ds w) : WC P r N (.cond c x y) Q ρ ds w := WC.cond true hc (fun _ => h) (fun h => by cases h)
theorem WC.cond0 {c : Operand} {x y : Code} (hc : ev ρ c = .bool false) (h : WC P r N y Q ρ ds w) : WC P r N (.cond c x y) Q ρ ds w := WC.cond false hc (fun h => by cases h) (fun _ => h)
/-- what is known between two pieces of code -/
theorem WC.cut {c : Code} (M : (Nat → Value) → List Nat → World → Prop) {K : (Nat → Value) → List Nat → World → Prop} (h : WC P r N c (thenE M Q) ρ ds w) (k : ∀ ρ ds w, M ρ ds w → K ρ ds w) : WC P r N c (thenE K Q) ρ ds w :=
  h.mono fun e ρ ds w q => by cases e <;> first | exact k _ _ _ q | exact q
end
section
variable {P : Program} {w : World} {ρ : Nat → Value} {d : Option Tmp} {ty : TypeId} {ps : String} {af : Array Edge} {g : Option (Nat × Bool)} {s : Sy} {L : List Hp} {K : Value → World → Prop}
theorem x_pick1 {c a b : Operand} {v : Value} (hc : ev ρ c = .bool true) (ha : ev ρ a = v) : (execOp (ev ρ) ⟨d, .pick c a b, ty, ps, af, g⟩).run P w = .ok (.value v) w := by
  subst ha; simp [execOp, hc, asBool, Sem.run_bind, Result.andThen, Sem.run_pure]
theorem x_pick0 {c a b : Operand} {v : Value} (hc : ev ρ c = .bool false) (hb : ev ρ b = v) : (execOp (ev ρ) ⟨d, .pick c a b, ty, ps, af, g⟩).run P w = .ok (.value v) w := by
  subst hb; simp [execOp, hc, asBool, Sem.run_bind, Result.andThen, Sem.run_pure]
theorem x_cmp {op : BinOp} {t t2 : TypeId} {x y : Operand} {a b : Value} {bb : Bool} (hx : ev ρ x = a) (hy : ev ρ y = b) (hg : (eqGuard op t x y a b).run P w = .ok () w) (hv : (binOp op t a b).run P w = .ok (.bool bb) w) : (execOp (ev ρ) ⟨d, .binOp op t x y t2, ty, ps, af, g⟩).run P w = .ok (.value (.bool bb)) w := by
  simp [execOp, hx, hy, Sem.run_bind, hg, hv, Result.andThen, Sem.run_pure]
theorem eql_ptr_nil {t e : TypeId} {a : Option Addr} (ht : P.underlying t = some (.pointer e)) : (Op.equal t (.pointer a) (.pointer none)).run P w = .ok a.isNone w := by
  have : ∀ n, (Op.equalIn (n + 1) t (.pointer a) (.pointer none)).run P w = .ok a.isNone w := fun n => by
    cases a <;> simp [Op.equalIn, Sem.run_bind, run_under ht, Result.andThen, Sem.run_pure]
  exact this 9999
theorem eql_map_nil {t k e : TypeId} {a : Option Nat} (ht : P.underlying t = some (.map k e)) : (Op.equal t (.map a) (.map none)).run P w = .ok a.isNone w := by
  have : ∀ n, (Op.equalIn (n + 1) t (.map a) (.map none)).run P w = .ok a.isNone w := fun n => by
    cases a <;> simp [Op.equalIn, Sem.run_bind, run_under ht, Result.andThen, Sem.run_pure]
  exact this 9999
theorem x_neqPN {t t2 e : TypeId} {x : Operand} {a : Option Addr} (ht : P.underlying t = some (.pointer e)) (hx : ev ρ x = .pointer a) : (execOp (ev ρ) ⟨d, .binOp .neq t x (.const (.pointer none)) t2, ty, ps, af, g⟩).run P w = .ok (.value (.bool a.isSome)) w := by
  refine x_cmp (b := .pointer none) hx rfl (by simp [eqGuard, Sem.run_pure]) ?_
  have := eql_ptr_nil (P := P) (w := w) (a := a) ht
  cases a <;> simp [binOp, Sem.run_bind, this, Result.andThen, Sem.run_pure]
theorem x_eqlPN {t t2 e : TypeId} {x : Operand} {a : Option Addr} (ht : P.underlying t = some (.pointer e)) (hx : ev ρ x = .pointer a) : (execOp (ev ρ) ⟨d, .binOp .eql t x (.const (.pointer none)) t2, ty, ps, af, g⟩).run P w = .ok (.value (.bool a.isNone)) w := by
  refine x_cmp (b := .pointer none) hx rfl (by simp [eqGuard, Sem.run_pure]) ?_
  have := eql_ptr_nil (P := P) (w := w) (a := a) ht
  cases a <;> simp [binOp, Sem.run_bind, this, Result.andThen, Sem.run_pure]
theorem x_neqMN {t t2 k e : TypeId} {x : Operand} {a : Option Nat} (ht : P.underlying t = some (.map k e)) (hx : ev ρ x = .map a) : (execOp (ev ρ) ⟨d, .binOp .neq t x (.const (.map none)) t2, ty, ps, af, g⟩).run P w = .ok (.value (.bool a.isSome)) w := by
  refine x_cmp (b := .map none) hx rfl (by simp [eqGuard, Sem.run_pure]) ?_
  have := eql_map_nil (P := P) (w := w) (a := a) ht
  cases a <;> simp [binOp, Sem.run_bind, this, Result.andThen, Sem.run_pure]
theorem x_eqlMN {t t2 k e : TypeId} {x : Operand} {a : Option Nat} (ht : P.underlying t = some (.map k e)) (hx : ev ρ x = .map a) : (execOp (ev ρ) ⟨d, .binOp .eql t x (.const (.map none)) t2, ty, ps, af, g⟩).run P w = .ok (.value (.bool a.isNone)) w := by
  refine x_cmp (b := .map none) hx rfl (by simp [eqGuard, Sem.run_pure]) ?_
  have := eql_map_nil (P := P) (w := w) (a := a) ht
  cases a <;> simp [binOp, Sem.run_bind, this, Result.andThen, Sem.run_pure]
/-! calls, with their arguments as lists -/
theorem s_callL {f : FuncId} {args : List Operand} {ats : Array TypeId} {R : Value → World → Prop} (hc : Cal P f) (h : CC P f (args.map (ev ρ)).toArray w R) (k : ∀ v w', R v w' → K v w') : St P ⟨d, .call { callee := .value (.func f), args := args.toArray, argTypes := ats }, ty, ps, af, g⟩ ρ w K :=
  s_call hc (by simpa using h) k
theorem s_callvL {x : Operand} {f : FuncId} {args : List Operand} {ats : Array TypeId} {caps : List Value} {R : Value → World → Prop} (hx : ev ρ x = .func (.func f) #[] caps.toArray) (hc : Cal P f) (h : CC P f (args.map (ev ρ) ++ caps).toArray w R) (k : ∀ v w', R v w' → K v w') : St P ⟨d, .call { callee := .value x, args := args.toArray, argTypes := ats }, ty, ps, af, g⟩ ρ w K :=
  s_callv hx hc (by simpa using h) k
theorem s_yieldL {x : Operand} {l : Nat} {args : List Operand} {ats : Array TypeId} {R : Value → World → Prop} (hx : ev ρ x = .func (.yield l) #[] #[]) (h : YY P l (args.map (ev ρ)).toArray w R) (k : ∀ v w', R v w' → K v w') : St P ⟨d, .call { callee := .value x, args := args.toArray, argTypes := ats }, ty, ps, af, g⟩ ρ w K :=
  s_yield hx (by simpa using h) k
theorem s_st {t : TypeId} {a x : Operand} {b off : Nat} {cs : Array Value} {t0 : TypeId} {z v : Value} {by_ : Nat} (i : Nat) (hi : L[i]? = some (pt b (.cells cs t0 (0, 0)))) (hy : Ty P t z 1 by_) (ha : ev ρ a = .pointer (some ⟨b, off, none⟩)) (hx : ev ρ x = v) (h1 : oneC v = true) (hoff : Nat.blt off cs.toList.length = true)
    (H : Hd s w L) (k : ∀ w', Hd s w' (L.set i (pt b (.cells (cs.toList.set off v).toArray t0))) → K undef w') : St P ⟨d, .store t a x, ty, ps, af, g⟩ ρ w K :=
  s_store i hi hy ha hx h1 (by simpa using blt_lt hoff) H (fun w' H' => k w' (by
    have e : cs.setIfInBounds off v = (cs.toList.set off v).toArray := by apply Array.ext'; simp
    rw [e] at H'; exact H'))
end
/-! loops -/
theorem WC.again {I : (Nat → Value) → List Nat → World → Prop} {μ : (Nat → Value) → World → Nat} {m : Nat} {Q : QE} {ρ : Nat → Value} {ds : List Nat} {w : World} (h : I ρ ds w) (hm : μ ρ w < m) : thenE (fun ρ ds w => I ρ ds w ∧ μ ρ w < m) Q .normal ρ ds w := ⟨h, hm⟩
/-! what was there ahead of the call -/
section
variable {s : Sy} {w : World} {L : List Hp}
def Old (w0 w : World) : Prop := ∀ (k : Nat) (o : Obj), w0.heap[k]? = some o → w.heap[k]? = some o
theorem Hd.old (H : Hd s w L) {w0 : World} (i : Nat) (hi : L[i]? = some (fr w0)) : Old w0 w := H.frozen i hi
theorem Old.cell {w0 w : World} (h : Old w0 w) {a : Addr} {v : Value} (hc : w0.cell? a = some v) : w.cell? a = some v := by
  have hlt := World.block_lt_of_cell? w0 a hc
  have := h a.block _ (Array.getElem?_eq_getElem hlt)
  rw [← hc]; exact World.cell?_of_block (w := w0) (by rw [this, Array.getElem?_eq_getElem hlt])
theorem Old.rdC {w0 w : World} (h : Old w0 w) {v : Value} {sz n : Nat} {cs : List Value} (hr : RdC w0 v sz n cs) : RdC w v sz n cs := by
  obtain ⟨h1, h2 | ⟨b, o, c, h2, h3⟩⟩ := hr
  · exact ⟨h1, .inl h2⟩
  · exact ⟨h1, .inr ⟨b, o, c, h2, fun j u hj => h.cell (h3 j u hj)⟩⟩
theorem Ext.old {w w' : World} (e : Ext w w') : Old w w' := fun k o hk => (e.block k (Array.getElem?_eq_some_iff.1 hk).1).trans hk
end
end KE
