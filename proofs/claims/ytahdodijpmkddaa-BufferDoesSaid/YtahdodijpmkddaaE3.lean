/-
  The engine of this proof, for any program: rules for walks, memory in parts, operations. No condition.
-/
import Derived.Test.YtahdodijpmkddaaE2
import Derived.Scope
set_option linter.unusedVariables false
set_option linter.unusedSimpArgs false
namespace KE
open Go Go.RowKit

section
variable {P : Program} {w : World} {ρ : Nat → Value} {d : Option Tmp} {ty : TypeId} {ps : String} {af : Array Edge} {g : Option (Nat × Bool)} {s : Sy} {L : List Hp} {K : Value → World → Prop}
/-! slices of slices -/
theorem x_sliceTo {t e : TypeId} {x h : Operand} {a : Option Addr} {n c : Nat} {k : IntKind} {i : Int} {z : Value} {sz by_ : Nat} (ht : P.underlying t = some (.slice e)) (hy : Ty P e z sz by_) (hx : ev ρ x = .slice a n c) (hh : ev ρ h = .int k i) (h0 : 0 ≤ i) (h1 : i ≤ c) :
    (execOp (ev ρ) ⟨d, .slice t x none (some h) none, ty, ps, af, g⟩).run P w = .ok (.value (.slice a i.toNat c)) w := by
  simp only [execOp, Instr.sliceAt, Sem.run_bind, run_under ht, Result.andThen, hx, Option.map_some, Option.map_none, hh]
  simp [Instr.slice, Instr.sliceBounds, Instr.sliceBound, asIntOf, Sem.run_bind, run_under ht, Result.andThen, Sem.run_pure, hy.size, h0, h1]
  cases a with
  | none => simp
  | some a => simp [Addr.add]
theorem x_sliceFrom {t e : TypeId} {x l : Operand} {b o n c : Nat} {k : IntKind} {i : Int} {z : Value} {sz by_ : Nat} (ht : P.underlying t = some (.slice e)) (hy : Ty P e z sz by_) (hx : ev ρ x = .slice (some ⟨b, o, none⟩) n c) (hl : ev ρ l = .int k i) (h0 : 0 ≤ i) (h1 : i ≤ n) (hc : n ≤ c) :
    (execOp (ev ρ) ⟨d, .slice t x (some l) none none, ty, ps, af, g⟩).run P w = .ok (.value (.slice (some (if c = i.toNat then ⟨b, o, none⟩ else ⟨b, o + i.toNat * sz, none⟩)) (n - i.toNat) (c - i.toNat))) w := by
  simp only [execOp, Instr.sliceAt, Sem.run_bind, run_under ht, Result.andThen, hx, Option.map_some, Option.map_none, hl]
  simp [Instr.slice, Instr.sliceBounds, Instr.sliceBound, asIntOf, Sem.run_bind, run_under ht, Result.andThen, Sem.run_pure, hy.size, h0, h1, add_plain]
  split <;> rfl
theorem x_cap {t e : TypeId} {x : Operand} {a : Option Addr} {n c : Nat} {ats : Array TypeId} (ht : P.underlying t = some (.slice e)) (ha : ats[0]? = some t) (hx : ev ρ x = .slice a n c) :
    (execOp (ev ρ) ⟨d, .call { callee := .builtin .cap, args := #[x], argTypes := ats }, ty, ps, af, g⟩).run P w = .ok (.value (.int .i64 c)) w := by
  simp [execOp, resolve, invoke, builtin, Builtin.cap_, ha, hx, Sem.run_bind, Result.andThen, Sem.run_pure, run_under ht, goInt]
theorem x_min {x y : Operand} {a b : Int} {k : IntKind} {ats : Array TypeId} (hx : ev ρ x = .int k a) (hy : ev ρ y = .int k b) :
    (execOp (ev ρ) ⟨d, .call { callee := .builtin .min, args := #[x, y], argTypes := ats }, ty, ps, af, g⟩).run P w = .ok (.value (.int k (if b < a then b else a))) w := by
  simp [execOp, resolve, invoke, builtin, Builtin.min_, Builtin.min2, hx, hy, Sem.run_bind, Result.andThen, Sem.run_pure]
theorem x_max {x y : Operand} {a b : Int} {k : IntKind} {ats : Array TypeId} (hx : ev ρ x = .int k a) (hy : ev ρ y = .int k b) :
    (execOp (ev ρ) ⟨d, .call { callee := .builtin .max, args := #[x, y], argTypes := ats }, ty, ps, af, g⟩).run P w = .ok (.value (.int k (if a < b then b else a))) w := by
  simp [execOp, resolve, invoke, builtin, Builtin.max_, Builtin.max2, hx, hy, Sem.run_bind, Result.andThen, Sem.run_pure]
/-! strings -/
theorem x_indexS {t : TypeId} {x ix : Operand} {st : ByteArray} {k : IntKind} {i : Int} (ht : P.underlying t = some .string) (hx : ev ρ x = .string st) (hi : ev ρ ix = .int k i) (h0 : 0 ≤ i) (h1 : i.toNat < st.size) :
    (execOp (ev ρ) ⟨d, .index t x ix, ty, ps, af, g⟩).run P w = .ok (.value (.int .u8 (st[i.toNat].toNat : Int))) w := by
  simp [execOp, Instr.index, hx, hi, asIntOf, Sem.run_bind, Result.andThen, Sem.run_pure, run_under ht, h0, h1]
theorem x_convI {t u : TypeId} {x : Operand} {k k2 : IntKind} {i : Int} {dd : TypeDesc} (ht : P.underlying t = some dd) (hu : P.underlying u = some (.int k2)) (hx : ev ρ x = .int k i) :
    (execOp (ev ρ) ⟨d, .convert t u x, ty, ps, af, g⟩).run P w = .ok (.value (.int k2 (k2.wrap i))) w := by
  simp [execOp, convert, hx, Sem.run_bind, Result.andThen, Sem.run_pure, run_under ht, run_under hu, Conv.intToInt]
theorem x_shr {t t2 : TypeId} {x y : Operand} {k k2 : IntKind} {a b : Int} (hx : ev ρ x = .int k a) (hy : ev ρ y = .int k2 b) (hb : 0 ≤ b) :
    (execOp (ev ρ) ⟨d, .binOp .shr t x y t2, ty, ps, af, g⟩).run P w = .ok (.value (.int k (a.fdiv (2 ^ (min b.toNat k.bits))))) w := by
  have hg : (eqGuard .shr t x y (.int k a) (.int k2 b)).run P w = .ok () w := by simp [eqGuard, Sem.run_pure]
  simp [execOp, hx, hy, Sem.run_bind, hg, binOp, Op.shift, show ¬ b < 0 by omega, Result.andThen, Sem.run_pure]
/-! an element of a slice of one's own is written -/
theorem s_storeEl {t e : TypeId} {a x : Operand} {v : Value} {n : Nat} {cs : List Value} {z u : Value} {by_ b o c k : Nat} (i : Nat) (hi : L[i]? = some (Sl v e 1 n cs)) (hv : v = .slice (some ⟨b, o, none⟩) n c) (hk : k < n) (hy : Ty P t z 1 by_) (ha : ev ρ a = .pointer (some ⟨b, o + k * 1, none⟩)) (hx : ev ρ x = u) (h1 : oneC u = true)
    (H : Hd s w L) (kk : ∀ w', Hd s w' (L.set i (Sl v e 1 n (cs.set k u))) → K undef w') : St P ⟨d, .store t a x, ty, ps, af, g⟩ ρ w K := by
  subst hv
  obtain ⟨⟨hl, hnb⟩, H1⟩ := Hd.unand (H.pick i hi)
  obtain ⟨q, ⟨hq1, _⟩, H2⟩ := Hd.opn (φ := fun q => SlB (.slice (some ⟨b, o, none⟩) n c) e 1 n cs q ∧ True) (q := fun q => pt q.1 (.cells q.2.2.2 e (0, 0))) H1 (by
    rintro x (⟨h1, _⟩ | ⟨q, h1, h2⟩)
    · cases h1
    · exact ⟨q, ⟨h1, trivial⟩, h2⟩)
  obtain ⟨b', o', c', all⟩ := q
  obtain ⟨e1, e2, e3, e4⟩ := hq1
  simp only [Value.slice.injEq, Option.some.injEq, Addr.mk.injEq] at e1
  obtain ⟨⟨rfl, rfl, _⟩, _, rfl⟩ := e1
  simp only at e2 e3 e4 H2
  rw [Nat.mul_one] at ha e3
  have hlt : o + k < all.size := by omega
  refine s_store (cs := all) 0 rfl hy ha hx h1 hlt H2 (fun w' H3 => kk w' ?_)
  refine Hd.back hi (Hd.weak H3 fun h hp => ⟨⟨by simpa using hl, hnb⟩, .inr ⟨(b, o, c, all.setIfInBounds (o + k) u), ⟨rfl, e2, by simpa using e3, ?_⟩, hp⟩⟩)
  intro j uu hj
  show (all.setIfInBounds (o + k) u)[o + j]? = some uu
  rw [Array.getElem?_setIfInBounds]
  rw [List.getElem?_set] at hj
  by_cases hjk : k = j
  · subst hjk
    rw [if_pos rfl] at hj
    have : k < cs.length := by rw [hl]; omega
    rw [if_pos this] at hj
    rw [if_pos rfl, if_pos hlt]; exact hj
  · rw [if_neg hjk] at hj
    rw [if_neg (by omega)]
    exact e4 j uu hj
/-! a longer view of a slice of one's own -/
theorem RdC.take {v : Value} {n m : Nat} {a : Option Addr} {c : Nat} {cs : List Value} {sz : Nat} (h : RdC w (.slice a n c) sz n cs) (hm : m ≤ n) : RdC w (.slice a m c) sz m (cs.take (m * sz)) := by
  obtain ⟨⟨h1, hnb⟩, ⟨h2, _⟩ | ⟨b, o, c', h2, h3⟩⟩ := h
  · obtain rfl : m = 0 := by omega
    exact ⟨⟨by simp, by omega⟩, .inl ⟨rfl, a, c, rfl⟩⟩
  · simp only [Value.slice.injEq] at h2
    obtain ⟨rfl, _, rfl⟩ := h2
    refine ⟨⟨by rw [List.length_take, h1]; exact Nat.min_eq_left (Nat.mul_le_mul_right _ hm), by omega⟩, .inr ⟨b, o, c, rfl, fun j u hj => h3 j u ?_⟩⟩
    rw [List.getElem?_take] at hj
    split at hj
    · exact hj
    · cases hj
/-! make with a capacity -/
theorem s_makeSlice0 {t e : TypeId} {l c : Operand} {z : Value} {sz by_ : Nat} {m : Nat} {k1 k2 : IntKind} {M : Int} (ht : P.underlying t = some (.slice e)) (hy : Ty P e z sz by_) (hzs : z.cells.size = sz) (hsz : 0 < sz) (hl : ev ρ l = .int k1 0) (hc : ev ρ c = .int k2 M) (hM : M = (m : Int)) (hb : by_ * m ≤ 281474976710656) (hm : m ≤ 9223372036854775807)
    (H : Hd s w L) (k : ∀ b w', Hd s w' (Sl (.slice (some ⟨b, 0, none⟩) 0 m) e sz 0 [] :: L) → K (.slice (some ⟨b, 0, none⟩) 0 m) w') : St P ⟨d, .makeSlice t l c, ty, ps, af, g⟩ ρ w K := by
  subst hM
  obtain ⟨inf, hinf, hz, hsize, hbytes⟩ := hy
  refine ⟨trivial, ?_⟩
  obtain ⟨w', hrun0, hown, hgr⟩ := run_make_own (P := P) w 0 t e inf z sz ht hinf hz hsize k1 k2 m (by rw [hbytes]; exact hb) (by unfold maxLen; omega) (Nat.zero_le _)
  have hrun : (execOp (ev ρ) ⟨d, .makeSlice t l c, ty, ps, af, g⟩).run P w = .ok (.value (.slice (some ⟨w.heap.size, 0, none⟩) 0 m)) w' := by
    simp [execOp, hl, hc, hrun0, Sem.run_bind, Result.andThen, Sem.run_pure]
  rw [hrun]
  rcases hown.2 with ⟨h, _⟩ | ⟨gg, cap, cur, hv, _, hh, _, _, hcs, _⟩
  · cases h
  · simp only [Value.slice.injEq, Option.some.injEq, Addr.mk.injEq] at hv
    obtain ⟨⟨rfl, _⟩, _, rfl⟩ := hv
    have hext : Ext w w' := ⟨hgr.os, hgr.tape, hgr.output, hgr.size, fun k hk => hgr.block k hk (by simp)⟩
    refine k _ _ (Hd.weak (H.fresh hext (Nat.le_refl _) hh) fun h hp => ⟨⟨by simp, by omega⟩, .inr ⟨(w.heap.size, 0, m, cur), ⟨rfl, Nat.zero_le _, by simp [hcs], fun j u hj => by simp at hj⟩, hp⟩⟩)
/-! a range over a string -/
theorem s_rangeS {t : TypeId} {x : Operand} {st : ByteArray} (ht : P.underlying t = some .string) (hx : ev ρ x = .string st) (H : Hd s w L) (k : ∀ b w', Hd s w' (pt b (.stringIter st 0) :: L) → K (.pointer (some ⟨b, 0, none⟩)) w') : St P ⟨d, .range t x, ty, ps, af, g⟩ ρ w K := by
  refine ⟨trivial, ?_⟩
  have : (execOp (ev ρ) ⟨d, .range t x, ty, ps, af, g⟩).run P w = .ok (.value (.pointer (some ⟨w.heap.size, 0, none⟩))) (w.alloc (.stringIter st 0)) := by
    simp [execOp, Instr.range, hx, Sem.run_bind, run_under ht, Result.andThen, Sem.run_pure]
  rw [this]; exact k _ _ (H.alloc _)
theorem s_nextS {x : Operand} {st : ByteArray} {b p : Nat} (i : Nat) (hi : L[i]? = some (pt b (.stringIter st p))) (hx : ev ρ x = .pointer (some ⟨b, 0, none⟩)) (H : Hd s w L)
    (k1 : p < st.size → ∀ w', Hd s w' (L.set i (pt b (.stringIter st (p + (Utf8.decode st p).2)))) → K (.tuple #[.bool true, .int .i64 p, .int .i32 (Utf8.decode st p).1]) w')
    (k0 : ¬ p < st.size → K (.tuple #[.bool false]) w) : St P ⟨d, .next x true, ty, ps, af, g⟩ ρ w K := by
  refine ⟨trivial, ?_⟩
  have hb := H.obj i hi
  by_cases hp : p < st.size
  · have : (execOp (ev ρ) ⟨d, .next x true, ty, ps, af, g⟩).run P w = .ok (.value (.tuple #[.bool true, .int .i64 p, .int .i32 (Utf8.decode st p).1])) (w.putObj b (.stringIter st (p + (Utf8.decode st p).2))) := by
      simp only [execOp, Instr.next, hx, Sem.run_bind]
      simp [getObj, setObj, Sem.run, hb, hp, Sem.run_bind, Result.andThen, Sem.run_pure, goInt, World.putObj]
    rw [this]; exact k1 hp _ (H.putObj i hi _)
  · have : (execOp (ev ρ) ⟨d, .next x true, ty, ps, af, g⟩).run P w = .ok (.value (.tuple #[.bool false])) w := by
      simp only [execOp, Instr.next, hx, Sem.run_bind]
      simp [getObj, Sem.run, hb, hp, Sem.run_bind, Result.andThen, Sem.run_pure]
    rw [this]; exact k0 hp
end
/-! signs -/
theorem decode_ascii {st : ByteArray} {p : Nat} (hp : p < st.size) (h : st[p].toNat < 128) : Utf8.decode st p = (st[p].toNat, 1) := by
  have hg : (st.get! p).toNat = st[p].toNat := by
    have : st.get! p = st[p] := by
      show st.data[p]! = st.data[p]
      rw [getElem!_pos st.data p hp]
    rw [this]
  unfold Utf8.decode
  simp [hg, h]
theorem decode_high {st : ByteArray} {p : Nat} (hp : p < st.size) (h : ¬ st[p].toNat < 128) : 128 ≤ (Utf8.decode st p).1 ∧ (Utf8.decode st p).1 ≤ 1114111 := by
  have hg : (st.get! p).toNat = st[p].toNat := by
    have : st.get! p = st[p] := by
      show st.data[p]! = st.data[p]
      rw [getElem!_pos st.data p hp]
    rw [this]
  have hg' : (st.get! (p + 0)).toNat = st[p].toNat := hg
  have m1 := Nat.mod_lt (st.get! (p + 1)).toNat (show 0 < 64 by omega)
  have m2 := Nat.mod_lt (st.get! (p + 2)).toNat (show 0 < 64 by omega)
  have m3 := Nat.mod_lt (st.get! (p + 3)).toNat (show 0 < 64 by omega)
  unfold Utf8.decode
  dsimp only
  have h0 : ¬ (st.get! (p + 0)).toNat < 128 := by rw [hg']; exact h
  have b1 : (st.get! (p + 0)).toNat % 32 < 32 := Nat.mod_lt _ (by omega)
  have b2 : (st.get! (p + 0)).toNat % 16 < 16 := Nat.mod_lt _ (by omega)
  have b3 : (st.get! (p + 0)).toNat % 8 < 8 := Nat.mod_lt _ (by omega)
  rw [if_neg h0]
  split
  · split
    · rename_i hc; exact ⟨hc, by dsimp only; omega⟩
    · exact ⟨by unfold Utf8.runeError; omega, by unfold Utf8.runeError; omega⟩
  · split
    · split
      · rename_i hc
        rw [Bool.and_eq_true] at hc
        have := of_decide_eq_true hc.1
        exact ⟨by dsimp only; omega, by dsimp only; omega⟩
      · exact ⟨by unfold Utf8.runeError; omega, by unfold Utf8.runeError; omega⟩
    · split
      · split
        · rename_i hc
          rw [Bool.and_eq_true] at hc
          have h1 := of_decide_eq_true hc.1
          have h2 := hc.2
          unfold Utf8.valid at h2
          rw [Bool.or_eq_true, Bool.and_eq_true, Bool.and_eq_true] at h2
          refine ⟨by dsimp only; omega, ?_⟩
          rcases h2 with h2 | h2
          · have := of_decide_eq_true h2.2; dsimp only; omega
          · have := of_decide_eq_true h2.2; dsimp only; omega
        · exact ⟨by unfold Utf8.runeError; omega, by unfold Utf8.runeError; omega⟩
      · exact ⟨by unfold Utf8.runeError; omega, by unfold Utf8.runeError; omega⟩
end KE
namespace KE
open Go Go.RowKit
/-- a slice of one-cell values that reads as a list -/
def RdL {α : Type} (w : World) (v : Value) (f : α → Value) (xs : List α) : Prop := RdC w v 1 xs.length (xs.map f)
theorem RdL.le {α : Type} {w : World} {v : Value} {f : α → Value} {xs : List α} (h : RdL w v f xs) : xs.length ≤ 140737488355328 := h.1.2
theorem RdL.shape {α : Type} {w : World} {v : Value} {f : α → Value} {xs : List α} (h : RdL w v f xs) : ∃ a c, v = .slice a xs.length c := RdC.shape h
theorem RdL.ext {α : Type} {w w' : World} {v : Value} {f : α → Value} {xs : List α} (h : RdL w v f xs) (e : Ext w w') : RdL w' v f xs := RdC.ext h e
theorem RdL.el {α : Type} {w : World} {a : Option Addr} {n c i : Nat} {f : α → Value} {xs : List α} {x : α} (h : RdL w (.slice a n c) f xs) (hx : xs[i]? = some x) : ∃ b o, a = some ⟨b, o, none⟩ ∧ w.cell? ⟨b, o + i * 1, none⟩ = some (f x) := by
  obtain ⟨h1, ⟨h2, _⟩ | ⟨b, o, c', h2, h3⟩⟩ := h
  · have := (List.getElem?_eq_some_iff.1 hx).1; omega
  · simp only [Value.slice.injEq] at h2
    obtain ⟨rfl, _, rfl⟩ := h2
    refine ⟨b, o, rfl, ?_⟩
    rw [Nat.mul_one]
    exact h3 i _ (by rw [List.getElem?_map, hx]; rfl)
theorem Old.rdL {α : Type} {w0 w : World} (h : Old w0 w) {v : Value} {f : α → Value} {xs : List α} (hr : RdL w0 v f xs) : RdL w v f xs := h.rdC hr
theorem lt_get {α : Type} {xs : List α} {k : Nat} (h : k < xs.length) : ∃ x, xs[k]? = some x := ⟨_, List.getElem?_eq_getElem h⟩
theorem list_eq {α : Type} {xs ys : List α} (hl : xs.length = ys.length) (h : ∀ j, j < xs.length → xs[j]? = ys[j]?) : xs = ys := by
  apply List.ext_getElem?
  intro j
  by_cases hj : j < xs.length
  · exact h j hj
  · rw [List.getElem?_eq_none (by omega), List.getElem?_eq_none (by omega)]
end KE
set_option linter.unusedVariables false
set_option linter.unusedSimpArgs false
namespace KE
open Go Go.RowKit

section
variable {P : Program} {b : Frame} {a : Act} {k : List Item} {cs : List Frame} {w : World}
theorem stepR_scope {c : Code} : step P (lone (b.atR a (.code (.scope c) :: k)) cs w) = .next (lone (b.atR a (.code c :: .inScope c :: k)) cs w) :=
  step_lone_go (by simp [stepG, stepG.exec, Frame.atR])
theorem stepR_inScope {c : Code} : step P (lone (b.atR a (.inScope c :: k)) cs w) = .next (lone (b.atR a k) cs w) :=
  step_lone_go (by simp [stepG, stepG.exec, Frame.atR])
end
def scopeE (Q : QE) : QE
  | .goto _ => fun _ _ _ => False
  | e => Q e
theorem WC.scope {P : Program} {r : Option Nat} {N : Nat} {Q : QE} {ρ : Nat → Value} {ds : List Nat} {w : World} {c : Code} (h : WC P r N c (scopeE Q) ρ ds w) : WC P r N (.scope c) Q ρ ds w := fun a ha => by
  intro b k cs hro hb hr
  have h0 : (lone (b.atR a (.code (.scope c) :: k)) cs w).fenced P (Fe r) := fenced_calm hb hr rfl
  obtain ⟨e, a₁, w₁, ⟨ρ', ds', f, q⟩, harr⟩ := h a ha b (.inScope c :: k) cs hro hb hr
  have hx : ∀ id, exitTo id (.inScope c :: k) = exitTo id k := fun id => by simp [exitTo]
  cases e with
  | normal => exact ⟨.normal, a₁, w₁, ⟨ρ', ds', f, q⟩, .head h0 stepR_scope (StepsIn.trans harr (.one (fenced_calm hb hr rfl) stepR_inScope))⟩
  | exit id => exact ⟨.exit id, a₁, w₁, ⟨ρ', ds', f, q⟩, fun k' hk => .head h0 stepR_scope (harr.1 k' (by rw [hx]; exact hk)),
      fun hr' hk => let ⟨k₁, h1, h2⟩ := harr.2 hr' (by rw [hx]; exact hk); ⟨k₁, h1, .head h0 stepR_scope h2⟩⟩
  | goto l => exact q.elim
  | ret => exact ⟨_, a₁, w₁, ⟨ρ', ds', f, q⟩, .of_steps (.one h0 stepR_scope) harr⟩
  | panic ch => exact ⟨_, a₁, w₁, ⟨ρ', ds', f, q⟩, .of_steps (.one h0 stepR_scope) harr⟩
  | outgrown => exact ⟨_, a₁, w₁, ⟨ρ', ds', f, q⟩, .of_steps (b := b) (k := k) (cs := cs) (e := .outgrown) (.one h0 stepR_scope) harr⟩

section
variable {P : Program} {w : World} {ρ : Nat → Value} {d : Option Tmp} {ty : TypeId} {ps : String} {af : Array Edge} {g : Option (Nat × Bool)} {s : Sy} {L : List Hp} {K : Value → World → Prop}
theorem x_build {t : TypeId} {fs : Array Field} {parts : Array (Nat × Operand)} {z : Value} {sz by_ : Nat} {places : Array (Nat × Nat)} {cells : Array Value} (ht : P.underlying t = some (.struct fs)) (hy : Ty P t z sz by_)
    (hpl : ∀ w, (fs.mapM (fun (f : Field) => (do pure (f.offset, ← Go.sizeOf f.type) : Sem (Nat × Nat)))).run P w = .ok places w) (hf : Instr.fill (places[·]?) z.cells (parts.map fun p => (p.1, ev ρ p.2)).toList = some cells) :
    (execOp (ev ρ) ⟨d, .build t parts, ty, ps, af, g⟩).run P w = .ok (.value (.agg cells)) w := by
  simp only [execOp, Instr.build, Sem.run_bind, hy.zero, run_under ht, Result.andThen, hpl]
  rw [hf]
  simp [Sem.run_pure]
theorem eql_fn_nil {t : TypeId} {ps' rs : Array TypeId} {v : Bool} {fn : Fn} {c1 c2 : Array Value} (ht : P.underlying t = some (.func ps' rs v)) : (Op.equal t (.func fn c1 c2) .nilFunc).run P w = .ok false w := by
  have : ∀ n, (Op.equalIn (n + 1) t (.func fn c1 c2) .nilFunc).run P w = .ok false w := fun n => by
    simp [Op.equalIn, Sem.run_bind, run_under ht, Result.andThen, Sem.run_pure]
  exact this 9999
theorem x_eqlFN {t t2 : TypeId} {x : Operand} {ps' rs : Array TypeId} {v : Bool} {fn : Fn} {c1 c2 : Array Value} (ht : P.underlying t = some (.func ps' rs v)) (hx : ev ρ x = .func fn c1 c2) : (execOp (ev ρ) ⟨d, .binOp .eql t x (.const .nilFunc) t2, ty, ps, af, g⟩).run P w = .ok (.value (.bool false)) w := by
  refine x_cmp (b := .nilFunc) hx rfl (by simp [eqGuard, Sem.run_pure]) ?_
  simp [binOp, Sem.run_bind, eql_fn_nil (P := P) (w := w) ht, Result.andThen, Sem.run_pure]
/-- bytes become a text -/
theorem bytes_loop (vs : List Int) (hv : ∀ v ∈ vs, 0 ≤ v ∧ v < 256) : ∀ (acc : ByteArray) (w : World), (forIn (m := Sem) (vs.map fun v => Value.int .u8 v).toArray acc (fun c s => do
      let .int .u8 n := c | stuck "bytesToString: byte expected"
      pure (.yield (s.push (UInt8.ofNat n.toNat))))).run P w = .ok (vs.foldl (fun s v => s.push (UInt8.ofNat v.toNat)) acc) w := by
  intro acc w
  rw [← Array.forIn_toList]
  simp only []
  induction vs generalizing acc with
  | nil => rfl
  | cons v vs ih =>
    simp only [List.map_cons, List.forIn_cons, Sem.run_bind, Sem.run_pure, Result.andThen, List.foldl_cons]
    exact ih (fun u hu => hv u (List.mem_cons_of_mem _ hu)) _
theorem x_convBS {t u e : TypeId} {x : Operand} {v : Value} {n : Nat} {vs : List Int} (ht : P.underlying t = some (.slice e)) (he : P.underlying e = some (.int .u8)) (hu : P.underlying u = some .string) (hx : ev ρ x = v) (hr : RdL w v (.int .u8) vs) (hv : ∀ v ∈ vs, 0 ≤ v ∧ v < 256) :
    (execOp (ev ρ) ⟨d, .convert t u x, ty, ps, af, g⟩).run P w = .ok (.value (.string (vs.foldl (fun s v => s.push (UInt8.ofNat v.toNat)) ByteArray.empty))) w := by
  subst hx
  obtain ⟨⟨h1, hb⟩, ⟨h2, a, c, h3⟩ | ⟨b, o, c, h3, h4⟩⟩ := hr
  · have : vs = [] := List.eq_nil_of_length_eq_zero h2
    subst this
    cases a with
    | none => simp [execOp, convert, Sem.run_bind, run_under ht, run_under hu, run_under he, h3, Result.andThen, Conv.bytesToString, Sem.run_pure]
    | some a =>
      simp [execOp, convert, Sem.run_bind, run_under ht, run_under hu, run_under he, h3, Result.andThen, Conv.bytesToString, loadCells, loadCellsFrom, Sem.run_pure]
  · have hl := run_loadCells (P := P) (w := w) (a := ⟨b, o, none⟩) (vs := vs.map (.int .u8)) (n := vs.length) (by simp) (fun j u hj => by rw [add_plain]; exact h4 j u hj)
    have hloop := bytes_loop (P := P) vs hv ByteArray.empty w
    simp only [execOp, convert, Sem.run_bind, run_under ht, run_under hu, run_under he, h3, Result.andThen, Conv.bytesToString, hl, Sem.run_pure]
    have e1 : (vs.map (Value.int .u8)).toArray = (vs.map fun v => Value.int .u8 v).toArray := rfl
    rw [e1]
    erw [hloop]
end
end KE
namespace KE
open Go Go.RowKit
section
variable {P : Program} {w : World} {ρ : Nat → Value} {d : Option Tmp} {ty : TypeId} {ps : String} {af : Array Edge} {g : Option (Nat × Bool)} {s : Sy} {L : List Hp} {K : Value → World → Prop}
theorem s_build1 {t e : TypeId} {x : Operand} {z u : Value} {by_ : Nat} (ht : P.underlying t = some (.slice e)) (hy : Ty P e z 1 by_) (hz : z.cells.size = 1) (hx : ev ρ x = u) (h1 : oneC u = true)
    (H : Hd s w L) (k : ∀ b w', Hd s w' (Sl (.slice (some ⟨b, 0, none⟩) 1 1) e 1 1 [u] :: L) → K (.slice (some ⟨b, 0, none⟩) 1 1) w') : St P ⟨d, .buildSlice t 1 #[(0, x)], ty, ps, af, g⟩ ρ w K := by
  have hc : u.cells = #[u] := by cases u <;> first | rfl | (simp [Value.oneCell'] at h1)
  refine s_buildSlice (cells := #[u]) ht hy (by omega) (by omega) ?_ rfl H k
  simp [hx, Instr.fill, hc]
  apply Array.ext
  · simp
  · intro i h1 h2
    have : i = 0 := by simp at h2; omega
    subst this; simp
theorem s_build1A {t e : TypeId} {x : Operand} {z : Value} {vs : List Value} {sz by_ : Nat} (ht : P.underlying t = some (.slice e)) (hy : Ty P e z sz by_) (hz : z.cells.size = sz) (hs0 : 0 < sz) (hs1 : sz ≤ 1000) (hx : ev ρ x = .agg vs.toArray) (hn : vs.length = sz)
    (H : Hd s w L) (k : ∀ b w', Hd s w' (Sl (.slice (some ⟨b, 0, none⟩) 1 1) e sz 1 vs :: L) → K (.slice (some ⟨b, 0, none⟩) 1 1) w') : St P ⟨d, .buildSlice t 1 #[(0, x)], ty, ps, af, g⟩ ρ w K := by
  refine s_buildSlice (cells := vs.toArray) ht hy (by omega) (by omega) ?_ (by simp [hn]) H (by simpa using k)
  have key : ∀ (vs : List Value) (off : Nat) (cs : Array Value), off + vs.length = cs.size → (vs.zipIdx.foldl (fun (cs : Array Value) (p : Value × Nat) => cs.setIfInBounds (off + p.2) p.1) cs) = (cs.toList.take off ++ vs).toArray := by
    intro vs
    have gen : ∀ (vs : List Value) (k off : Nat) (cs : Array Value), off + k + vs.length = cs.size → ((vs.zipIdx k).foldl (fun (cs : Array Value) (p : Value × Nat) => cs.setIfInBounds (off + p.2) p.1) cs) = (cs.toList.take (off + k) ++ vs).toArray := by
      intro vs
      induction vs with
      | nil =>
        intro k off cs h
        simp only [List.zipIdx_nil, List.foldl_nil, List.append_nil]
        rw [List.take_of_length_le (by simp at h ⊢; omega)]
      | cons v vs ih =>
        intro k off cs h
        simp only [List.zipIdx_cons, List.foldl_cons]
        rw [ih (k + 1) off _ (by simp at h ⊢; omega)]
        congr 1
        simp only [Array.toList_setIfInBounds]
        have hlt : off + k < cs.toList.length := by simp at h ⊢; omega
        rw [show off + (k + 1) = off + k + 1 from by omega, List.take_succ_eq_append_getElem (by simpa using hlt)]
        simp [List.take_set]
        exact List.set_eq_of_length_le (by rw [List.length_take]; omega)
    intro off cs h
    have := gen vs 0 off cs (by simpa using h)
    simpa using this
  have hI : ((Array.range (1 * sz)).map fun x => z.cells[x % z.cells.size]!).size = sz := by simp
  generalize ((Array.range (1 * sz)).map fun x => z.cells[x % z.cells.size]!) = I at hI
  simp only [List.map_toArray, List.map_cons, List.map_nil, hx]
  show (if (decide (vs.toArray.size ≠ sz) || decide (0 * sz + vs.toArray.size > I.size)) = true then none else Instr.fill (fun i => some (i * sz, sz)) (vs.toArray.zipIdx.foldl (fun (cs : Array Value) (p : Value × Nat) => cs.setIfInBounds (0 * sz + p.2) p.1) I) []) = some vs.toArray
  rw [if_neg (by simp [hn, hI]), ← Array.foldl_toList]
  simp only [Nat.zero_mul, Array.toList_zipIdx, Instr.fill]
  rw [key vs 0 I (by simp [hn, hI])]
  simp
theorem x_look {κ : Type} [DecidableEq κ] {kt : TypeId} {t et : TypeId} {x y : Operand} {m : Nat} {es : Array MapEntry} {cl : Nat} {l : List (κ × Value)} {k : κ} {z : Value} {sz by_ : Nat} {c : Bool} {rr : Option Value} (T : KT P kt κ) (ht : P.underlying t = some (.map kt et)) (hy : Ty P et z sz by_) (hx : ev ρ x = .map (some m)) (hk : ev ρ y = T.kv k) (hm : w.heap[m]? = some (.map es cl)) (hv : MV T.kv es l) (hr : alook k l = rr) :
    (execOp (ev ρ) ⟨d, .lookup t x y c, ty, ps, af, g⟩).run P w = .ok (.value (lkV c z rr)) w := by subst hr; exact x_lookup T ht hy hx hk hm hv
end
end KE
set_option linter.unusedVariables false
set_option linter.unusedSimpArgs false
namespace KE
open Go Go.RowKit
section
variable {P : Program} {w : World} {ρ : Nat → Value} {d : Option Tmp} {ty : TypeId} {ps : String} {af : Array Edge} {g : Option (Nat × Bool)} {s : Sy} {L : List Hp} {K : Value → World → Prop}
theorem blockE_n {id : Nat} {Q : QE} {ds : List Nat} (h : Q .normal ρ ds w) : blockE id Q .normal ρ ds w := h
def strIt (w : World) (v : Value) : Nat := match v with | .pointer (some a) => (match w.heap[a.block]? with | some (.stringIter _ p) => p | _ => 0) | _ => 0
theorem strIt_eq {w : World} {b p : Nat} {x : ByteArray} (h : w.heap[b]? = some (.stringIter x p)) : strIt w (.pointer (some ⟨b, 0, none⟩)) = p := by simp [strIt, h]
theorem cells_one {u : Value} (h1 : oneC u = true) : u.cells = #[u] := by cases u <;> first | rfl | (simp [Value.oneCell'] at h1)
theorem fill_list : ∀ (vs : List Value) (k : Nat) (cs : Array Value), cs.size = k + vs.length → (∀ v ∈ vs, oneC v = true) →
    Instr.fill (fun i => some (i * 1, 1)) cs ((vs.zipIdx k).map fun p => (p.2, p.1)) = some (cs.toList.take k ++ vs).toArray
  | [], k, cs, hs, _ => by
    simp only [List.zipIdx_nil, List.map_nil, Instr.fill, List.append_nil]
    rw [List.take_of_length_le (by simp at hs ⊢; omega)]
  | v :: vs, k, cs, hs, h1 => by
    have hc := cells_one (h1 v List.mem_cons_self)
    have ih := fill_list vs (k + 1) (cs.setIfInBounds k v) (by simp at hs ⊢; omega) (fun u hu => h1 u (List.mem_cons_of_mem _ hu))
    simp only [List.zipIdx_cons, List.map_cons, Instr.fill]
    rw [hc]
    have : ¬ (k * 1 + 1 > cs.size) := by simp at hs; omega
    simp only [Array.size_singleton, Nat.mul_one]
    simp [show ¬ (k + 1 > cs.size) from by simp at hs; omega]
    simp at ih
    rw [ih]
    have hlt : k < cs.toList.length := by simp at hs ⊢; omega
    congr 2
    rw [List.take_succ_eq_append_getElem (by simpa using hlt)]
    simp [List.take_set]
    exact List.set_eq_of_length_le (by rw [List.length_take]; omega)
theorem s_buildN {t e : TypeId} {n : Nat} {parts : Array (Nat × Operand)} {xs : List Operand} {z : Value} {vs : List Value} {by_ : Nat} (ht : P.underlying t = some (.slice e)) (hy : Ty P e z 1 by_) (hz : z.cells.size = 1)
    (hp : parts = (xs.zipIdx.map fun p => (p.2, p.1)).toArray) (hv : xs.map (ev ρ) = vs) (hn : n = vs.length) (hn0 : 0 < n) (hn1 : n ≤ 1000) (h1 : ∀ v ∈ vs, oneC v = true)
    (H : Hd s w L) (k : ∀ b w', Hd s w' (Sl (.slice (some ⟨b, 0, none⟩) n n) e 1 n vs :: L) → K (.slice (some ⟨b, 0, none⟩) n n) w') : St P ⟨d, .buildSlice t n parts, ty, ps, af, g⟩ ρ w K := by
  subst hp
  refine s_buildSlice (cells := vs.toArray) ht hy (by omega) (by omega) ?_ (by simp [hn]) H (by simpa using k)
  have hI : ((Array.range (n * 1)).map fun x => z.cells[x % z.cells.size]!).size = n := by simp
  generalize ((Array.range (n * 1)).map fun x => z.cells[x % z.cells.size]!) = I at hI
  have hq : ((xs.zipIdx.map fun p => (p.2, p.1)).toArray.map fun (i, x) => (i, ev ρ x)).toList = (vs.zipIdx 0).map fun p => (p.2, p.1) := by
    subst hv
    simp only [List.map_toArray, List.map_map]
    have : ∀ (xs : List Operand) (k : Nat), (xs.zipIdx k).map ((fun (p : Nat × Operand) => (p.1, ev ρ p.2)) ∘ fun p => (p.2, p.1)) = ((xs.map (ev ρ)).zipIdx k).map fun p => (p.2, p.1) := by
      intro xs
      induction xs with
      | nil => intro k; rfl
      | cons x xs ih => intro k; simp only [List.zipIdx_cons, List.map_cons, ih (k + 1)]; rfl
    exact this xs 0
  rw [hq, fill_list vs 0 I (by omega) h1]
  simp
theorem s_nextA {x : Operand} {st : ByteArray} {b p : Nat} (i : Nat) (hi : L[i]? = some (pt b (.stringIter st p))) (hx : ev ρ x = .pointer (some ⟨b, 0, none⟩)) (ha : ∀ (p : Nat) (h : p < st.size), st[p].toNat < 128) (H : Hd s w L)
    (k1 : ∀ (hp : p < st.size) w', Hd s w' (L.set i (pt b (.stringIter st (p + 1)))) → K (.tuple #[.bool true, .int .i64 p, .int .i32 (st[p].toNat : Nat)]) w')
    (k0 : ¬ p < st.size → K (.tuple #[.bool false]) w) : St P ⟨d, .next x true, ty, ps, af, g⟩ ρ w K :=
  s_nextS i hi hx H (fun hp w' H' => by
    have hd := decode_ascii hp (ha p hp)
    rw [hd] at H' ⊢
    exact k1 hp w' H') k0
theorem x_makeFuncL {f : Fn} {a c : List Operand} : (execOp (ev ρ) ⟨d, .makeFunc f a.toArray c.toArray, ty, ps, af, g⟩).run P w = .ok (.value (.func f (a.map (ev ρ)).toArray (c.map (ev ρ)).toArray)) w := by
  rw [x_makeFunc]; simp only [List.map_toArray]
theorem Hd.pure {φ : Prop} (hφ : φ) (H : Hd s w L) : Hd s w ((fun _ => φ) :: L) := by
  obtain ⟨h0, h, hs, hL⟩ := H
  refine ⟨h0, h, hs, fun _ => none, h, fun _ => .inl rfl, ?_, hφ, hL⟩
  funext i; simp [hor]
theorem s_build0 {t e : TypeId} {z : Value} {sz by_ : Nat} (ht : P.underlying t = some (.slice e)) (hy : Ty P e z sz by_)
    (H : Hd s w L) (k : ∀ b w', Hd s w' (Sl (.slice (some ⟨b, 0, none⟩) 0 0) e sz 0 [] :: L) → K (.slice (some ⟨b, 0, none⟩) 0 0) w') : St P ⟨d, .buildSlice t 0 #[], ty, ps, af, g⟩ ρ w K := by
  refine ⟨trivial, ?_⟩
  have : (execOp (ev ρ) ⟨d, .buildSlice t 0 #[], ty, ps, af, g⟩).run P w = .ok (.value (.slice (some ⟨w.heap.size, 0, none⟩) 0 0)) (w.alloc (.cells #[] e)) := by
    simp [execOp, Instr.buildSlice, Sem.run_bind, run_under ht, Result.andThen, Sem.run_pure, hy.size, Instr.fill, newRow]
    congr 2
    exact Array.eq_empty_of_size_eq_zero (by simp)
  rw [this]
  exact k _ _ (Hd.weak (H.alloc _) fun h hp => ⟨⟨by simp, by omega⟩, .inr ⟨(w.heap.size, 0, 0, #[]), ⟨rfl, Nat.le_refl _, by simp, fun j u hj => by simp at hj⟩, hp⟩⟩)
def fillL (place : Nat → Option (Nat × Nat)) : List Value → List (Nat × Value) → Option (List Value)
  | cs, [] => some cs
  | cs, (i, v) :: rest => match place i with
    | none => none
    | some (off, size) => bif Nat.beq v.cells.toList.length size && Nat.ble (off + v.cells.toList.length) cs.length then fillL place (cs.take off ++ v.cells.toList ++ cs.drop (off + v.cells.toList.length)) rest else none
theorem set_run : ∀ (vs : List Value) (k off : Nat) (cs : List Value), off + k + vs.length ≤ cs.length →
    (vs.zipIdx k).foldl (fun (cs : Array Value) (p : Value × Nat) => cs.setIfInBounds (off + p.2) p.1) cs.toArray = (cs.take (off + k) ++ vs ++ cs.drop (off + k + vs.length)).toArray
  | [], k, off, cs, h => by simp
  | v :: vs, k, off, cs, h => by
    simp only [List.length_cons] at h
    simp only [List.zipIdx_cons, List.foldl_cons, List.setIfInBounds_toArray]
    rw [set_run vs (k + 1) off _ (by simp; omega)]
    congr 1
    have hlt : off + k < (cs.set (off + k) v).length := by simp; omega
    rw [show off + (k + 1) = off + k + 1 from by omega, List.take_succ_eq_append_getElem hlt]
    simp only [List.getElem_set_self, List.take_set, List.length_cons]
    rw [List.set_eq_of_length_le (by rw [List.length_take]; omega), List.drop_set_of_lt (by omega)]
    simp [Nat.add_assoc, Nat.add_comm 1 vs.length]
theorem fill_fillL (place : Nat → Option (Nat × Nat)) : ∀ (ps : List (Nat × Value)) (cs : List Value), Instr.fill place cs.toArray ps = (fillL place cs ps).map List.toArray
  | [], cs => rfl
  | (i, v) :: ps, cs => by
    simp only [Instr.fill, fillL]
    cases place i with
    | none => rfl
    | some q =>
      obtain ⟨off, size⟩ := q
      simp only
      cases h1 : Nat.beq v.cells.toList.length size with
      | false =>
        have : v.cells.size ≠ size := fun e => by have := Nat.beq_refl size; simp only [Array.length_toList, e] at h1; rw [this] at h1; cases h1
        simp [this]
      | true =>
        have h1' : v.cells.size = size := by have := Nat.eq_of_beq_eq_true h1; simpa using this
        cases h2 : Nat.ble (off + v.cells.toList.length) cs.length with
        | false =>
          have : cs.length < off + v.cells.size := Nat.lt_of_not_le fun hl => by have := Nat.ble_eq_true_of_le hl; simp only [Array.length_toList] at h2; rw [this] at h2; cases h2
          simp [this]
        | true =>
          have h2' : off + v.cells.size ≤ cs.length := by have := Nat.le_of_ble_eq_true h2; simpa using this
          have := set_run v.cells.toList 0 off cs (by simpa using h2')
          simp only [Nat.add_zero] at this
          rw [if_neg (by simp [h1', Nat.not_lt.2 (h1' ▸ h2')])]
          simp only [Bool.and_self, cond_true]
          rw [← fill_fillL place ps, ← this, ← Array.foldl_toList, Array.toList_zipIdx]
theorem x_buildL {t : TypeId} {fs : List Field} {parts : List (Nat × Operand)} {z : Value} {sz by_ : Nat} {pl : List (Nat × Nat)} {cells : List Value} (ht : P.underlying t = some (.struct fs.toArray)) (hy : Ty P t z sz by_)
    (hpl : fs.map (fun f => (P.info? f.type).map (fun i => (f.offset, i.size))) = pl.map some) (hf : fillL (pl[·]?) z.cells.toList (parts.map fun p => (p.1, ev ρ p.2)) = some cells) :
    (execOp (ev ρ) ⟨d, .build t parts.toArray, ty, ps, af, g⟩).run P w = .ok (.value (.agg cells.toArray)) w := by
  have hz := hy
  refine x_build (places := pl.toArray) ht hy (fun w => ?_) ?_
  · clear hf ht
    rw [List.mapM_toArray]
    have : ∀ (fs : List Field) (pl : List (Nat × Nat)), fs.map (fun f => (P.info? f.type).map (fun i => (f.offset, i.size))) = pl.map some → (fs.mapM (fun (f : Field) => (do pure (f.offset, ← Go.sizeOf f.type) : Sem (Nat × Nat)))).run P w = .ok pl w := by
      intro fs
      induction fs with
      | nil => intro pl h; cases pl with
        | nil => simp [Sem.run_pure]
        | cons => simp at h
      | cons f fs ih =>
        intro pl h
        cases pl with
        | nil => simp at h
        | cons p pl =>
          simp only [List.map_cons, List.cons.injEq] at h
          obtain ⟨i, hi, he⟩ := Option.map_eq_some_iff.1 h.1
          have hs : (Go.sizeOf f.type).run P w = .ok i.size w := by
            have hb : Ty P f.type (i.zero.getD undef) i.size i.bytes ∨ True := .inr trivial
            simp [Go.sizeOf, typeInfo, Sem.run_bind, run_program, Result.andThen, hi, Sem.run_pure]
          simp only [List.mapM_cons, Sem.run_bind, hs, Result.andThen, Sem.run_pure, ih pl h.2, he]
    simp only [Sem.run_bind, Sem.run_map, this fs pl hpl, Result.andThen]
  · have h1 : (fun (x : Nat) => pl.toArray[x]?) = fun x => pl[x]? := funext fun x => by simp
    rw [h1, List.map_toArray, ← Array.toArray_toList (xs := z.cells), fill_fillL]
    simp only [hf, Option.map_some]
theorem Hd.starAt (A : List Hp) {p q : Hp} (H : Hd s w (A ++ (p :: q :: L))) : Hd s w (A ++ (KE.star p q :: L)) := by
  have h1 : (A ++ (p :: q :: L)).Perm (p :: q :: (A ++ L)) := List.perm_middle.trans (List.perm_middle.cons p)
  exact ((H.perm h1).star).perm List.perm_middle.symm
theorem Hd.unstarAt (A : List Hp) {p q : Hp} (H : Hd s w (A ++ (KE.star p q :: L))) : Hd s w (A ++ (p :: q :: L)) := by
  have h1 : (A ++ (p :: q :: L)).Perm (p :: q :: (A ++ L)) := List.perm_middle.trans (List.perm_middle.cons p)
  exact ((H.perm List.perm_middle).unstar).perm h1.symm
theorem Hd.swp {p q : Hp} (H : Hd s w (p :: q :: L)) : Hd s w (q :: p :: L) := H.perm (List.Perm.swap _ _ _)
theorem Hd.dropAt (A : List Hp) {p : Hp} (H : Hd s w (A ++ (p :: L))) : Hd s w (A ++ L) := (H.perm List.perm_middle).drop
theorem Hd.front (A : List Hp) {p : Hp} (H : Hd s w (A ++ (p :: L))) : Hd s w (p :: (A ++ L)) := H.perm List.perm_middle
theorem Hd.ins (A : List Hp) {p : Hp} (H : Hd s w (p :: (A ++ L))) : Hd s w (A ++ (p :: L)) := H.perm List.perm_middle.symm
theorem equal_bool {t : TypeId} {a b : Bool} (ht : P.underlying t = some .bool) : (Op.equal t (.bool a) (.bool b)).run P w = .ok (a == b) w := by
  have : ∀ n, (Op.equalIn (n + 1) t (.bool a) (.bool b)).run P w = .ok (a == b) w := fun n => by
    simp [Op.equalIn, Sem.run_bind, run_under ht, Result.andThen, Sem.run_pure]
  exact this 9999
theorem x_neqB {t t2 : TypeId} {x y : Operand} {a b : Bool} (ht : P.underlying t = some .bool) (hx : ev ρ x = .bool a) (hy : ev ρ y = .bool b) : (execOp (ev ρ) ⟨d, .binOp .neq t x y t2, ty, ps, af, g⟩).run P w = .ok (.value (.bool (decide (a ≠ b)))) w := by
  refine x_cmp hx hy (by simp [eqGuard, Sem.run_pure]) ?_
  simp [binOp, Sem.run_bind, equal_bool (P := P) (w := w) ht, Result.andThen, Sem.run_pure]
  cases a <;> cases b <;> rfl
theorem x_eqlB {t t2 : TypeId} {x y : Operand} {a b : Bool} (ht : P.underlying t = some .bool) (hx : ev ρ x = .bool a) (hy : ev ρ y = .bool b) : (execOp (ev ρ) ⟨d, .binOp .eql t x y t2, ty, ps, af, g⟩).run P w = .ok (.value (.bool (decide (a = b)))) w := by
  refine x_cmp hx hy (by simp [eqGuard, Sem.run_pure]) ?_
  simp [binOp, Sem.run_bind, equal_bool (P := P) (w := w) ht, Result.andThen, Sem.run_pure]
  cases a <;> cases b <;> rfl
theorem Hd.oldIn {w0 : World} (H : Hd s w L) (h : fr w0 ∈ L) : Old w0 w := by
  obtain ⟨i, hi⟩ := List.getElem?_of_mem h
  exact H.old i hi
/-- the list's front, put in another order, or some of it left out -/
theorem Hd.arrT (A : List Hp) (ix : List Nat) (hn : ix.Nodup) (hl : (ix.all fun i => Nat.blt i A.length) = true) (H : Hd s w (A ++ L)) : Hd s w (ix.map (fun i => A.getD i (fun _ => True)) ++ L) := by
  have hl : ∀ i ∈ ix, i < A.length := fun i hi => blt_lt (List.all_eq_true.1 hl i hi)
  have h1 : Hd s w (KE.sep L :: A) := (H.perm List.perm_append_comm).sep
  have h2 := h1.arr (0 :: ix.map (· + 1)) (by
    rw [List.nodup_cons]
    refine ⟨fun h => ?_, ?_⟩
    · obtain ⟨x, _, hx⟩ := List.mem_map.1 h; omega
    · rw [List.nodup_iff_pairwise_ne] at hn ⊢
      exact List.Pairwise.map _ (fun a b h => by omega) hn) (by
    intro i hi
    rcases List.mem_cons.1 hi with rfl | hi
    · simp
    · obtain ⟨x, hx, rfl⟩ := List.mem_map.1 hi
      have := hl x hx
      simp; omega)
  simp only [List.map_cons, List.map_map] at h2
  have h3 := h2.unsep
  exact h3.perm List.perm_append_comm
/-- a slice's spare places, taken as its own -/
theorem Hd.grow {a : Option Addr} {e : TypeId} {sz n c m : Nat} {cs : List Value} (H : Hd s w (Sl (.slice a n c) e sz n cs :: L)) (h0 : n ≤ m) (h1 : m ≤ c) (h2 : m ≤ 140737488355328) : ∃ cs', Hd s w (Sl (.slice a m c) e sz m cs' :: L) := by
  obtain ⟨h, hs, hL⟩ := H
  obtain ⟨h3, p, q, h4, h5, ⟨hl, hh⟩, h7⟩ := hL
  obtain ⟨hl, ⟨h8, h9⟩ | ⟨⟨g, o, c', all⟩, ⟨h8, h9, h10, h11⟩, h12⟩⟩ := (⟨hl, hh⟩ : Sl (.slice a n c) e sz n cs p)
  · cases h8
    have : m = 0 := by omega
    subst this
    exact ⟨[], h, hs, h3, p, q, h4, h5, ⟨⟨by simp, by omega⟩, .inl ⟨rfl, rfl⟩⟩, h7⟩
  · simp only [Value.slice.injEq] at h8
    obtain ⟨h8, -, h13⟩ := h8
    subst h13
    refine ⟨(all.toList.drop o).take (m * sz), h, hs, h3, p, q, h4, h5, ⟨⟨?_, h2⟩, .inr ⟨⟨g, o, c, all⟩, ⟨by rw [h8], h1, h10, ?_⟩, h12⟩⟩, h7⟩
    · rw [List.length_take, List.length_drop]
      have := Nat.mul_le_mul_right sz h1
      simp only at h10
      simp
      omega
    · intro j u hj
      rw [List.getElem?_take] at hj
      split at hj
      · simpa using hj
      · cases hj
theorem Hd.cap {a : Option Addr} {e : TypeId} {sz n c : Nat} {cs : List Value} (H : Hd s w L) (i : Nat) (hi : L[i]? = some (Sl (.slice a n c) e sz n cs)) : n ≤ c ∧ (a = none → c = 0) := by
  obtain ⟨h, _, hl, ⟨h8, h9⟩ | ⟨⟨g, o, c', all⟩, ⟨h8, h9, h10, h11⟩, h12⟩⟩ := H.fact_at i hi
  · cases h8; exact ⟨Nat.le_refl _, fun _ => rfl⟩
  · simp only [Value.slice.injEq] at h8
    obtain ⟨h8, -, rfl⟩ := h8
    exact ⟨h9, fun h => by rw [h] at h8; cases h8⟩
end
end KE
set_option linter.unusedVariables false
set_option linter.unusedSimpArgs false
namespace KE
open Go Go.RowKit
/-! ### lists of rows -/
theorem flat_len {α β : Type} {f : α → List β} {sz : Nat} (hf : ∀ x, (f x).length = sz) : ∀ (xs : List α), (xs.flatMap f).length = xs.length * sz
  | [] => by simp
  | x :: xs => by rw [List.flatMap_cons, List.length_append, hf, flat_len hf xs, List.length_cons, Nat.succ_mul, Nat.add_comm]
theorem flat_get {α β : Type} {f : α → List β} {sz : Nat} (hf : ∀ x, (f x).length = sz) : ∀ {xs : List α} {i j : Nat} {x : α} {u : β}, xs[i]? = some x → (f x)[j]? = some u → (xs.flatMap f)[i * sz + j]? = some u
  | y :: xs, 0, j, x, u, hx, hu => by
    simp only [List.getElem?_cons_zero, Option.some.injEq] at hx
    subst hx
    rw [List.flatMap_cons, Nat.zero_mul, Nat.zero_add, List.getElem?_append_left (List.getElem?_eq_some_iff.1 hu).1]
    exact hu
  | y :: xs, i + 1, j, x, u, hx, hu => by
    simp only [List.getElem?_cons_succ] at hx
    rw [List.flatMap_cons, List.getElem?_append_right (by rw [hf, Nat.succ_mul]; omega), hf, show (i + 1) * sz + j - sz = i * sz + j from by rw [Nat.succ_mul]; omega]
    exact flat_get hf hx hu
/-- a slice of rows, read -/
def RdS {α : Type} (w : World) (v : Value) (sz : Nat) (f : α → List Value) (xs : List α) : Prop := RdC w v sz xs.length (xs.flatMap f)
theorem RdS.le {α : Type} {w : World} {v : Value} {sz : Nat} {f : α → List Value} {xs : List α} (h : RdS w v sz f xs) : xs.length ≤ 140737488355328 := h.1.2
theorem RdS.shape {α : Type} {w : World} {v : Value} {sz : Nat} {f : α → List Value} {xs : List α} (h : RdS w v sz f xs) : ∃ a c, v = .slice a xs.length c := RdC.shape h
theorem RdS.ext {α : Type} {w w' : World} {v : Value} {sz : Nat} {f : α → List Value} {xs : List α} (h : RdS w v sz f xs) (e : Ext w w') : RdS w' v sz f xs := RdC.ext h e
theorem Old.rdS {α : Type} {w0 w : World} (h : Old w0 w) {v : Value} {sz : Nat} {f : α → List Value} {xs : List α} (hr : RdS w0 v sz f xs) : RdS w v sz f xs := h.rdC hr
theorem RdS.el {α : Type} {w : World} {a : Option Addr} {n c i sz : Nat} {f : α → List Value} (hf : ∀ x, (f x).length = sz) {xs : List α} {x : α} (h : RdS w (.slice a n c) sz f xs) (hx : xs[i]? = some x) :
    ∃ b o, a = some ⟨b, o, none⟩ ∧ ∀ j u, (f x)[j]? = some u → w.cell? ⟨b, o + i * sz + j, none⟩ = some u := by
  obtain ⟨b, o, c', hv, hc⟩ := RdC.at_ h (i := i) (List.getElem?_eq_some_iff.1 hx).1
  cases hv
  exact ⟨b, o, rfl, fun j u hj => hc j u (by rw [← hf x]; exact (List.getElem?_eq_some_iff.1 hj).1) (flat_get hf hx hj)⟩
theorem RdS.at {α : Type} {w : World} {b o n c i sz : Nat} {f : α → List Value} (hf : ∀ x, (f x).length = sz) {xs : List α} {x : α} (h : RdS w (.slice (some ⟨b, o, none⟩) n c) sz f xs) (hx : xs[i]? = some x) :
    ∀ j u, (f x)[j]? = some u → w.cell? ⟨b, o + i * sz + j, none⟩ = some u := by
  obtain ⟨b', o', e, hc⟩ := h.el hf hx
  cases e
  exact hc
section
variable {P : Program} {w : World} {ρ : Nat → Value} {d : Option Tmp} {ty : TypeId} {ps : String} {af : Array Edge} {g : Option (Nat × Bool)} {s : Sy} {L : List Hp} {K : Value → World → Prop}
/-- a struct is loaded out of memory: cells as facts -/
theorem x_loadF {t : TypeId} {x : Operand} {b o : Nat} {vs : List Value} {dd : TypeDesc} {z : Value} {sz by_ : Nat} (ht : P.underlying t = some dd) (hd : aggD dd = true) (hy : Ty P t z sz by_) (hx : ev ρ x = .pointer (some ⟨b, o, none⟩)) (hn : vs.length = sz) (hc : ∀ j u, vs[j]? = some u → w.cell? ⟨b, o + j, none⟩ = some u) :
    (execOp (ev ρ) ⟨d, .load t x, ty, ps, af, g⟩).run P w = .ok (.value (.agg vs.toArray)) w := x_loadA ht hd hy hx hn (fun j u hj => by rw [add_plain]; exact hc j u hj)
/-- the cells of a block of one's own -/
theorem Hd.cellsL (H : Hd s w L) {b off : Nat} {cs : List Value} {t : TypeId} {f : Nat × Nat} {vs : List Value} (i : Nat) (hi : L[i]? = some (pt b (.cells cs.toArray t f))) (hv : (cs.drop off).take vs.length = vs) : ∀ j u, vs[j]? = some u → w.cell? ⟨b, off + j, none⟩ = some u := by
  intro j u hj
  refine H.cellL i hi ?_
  have h1 : ((cs.drop off).take vs.length)[j]? = some u := by rw [hv]; exact hj
  rw [List.getElem?_take] at h1
  split at h1
  · simpa using h1
  · cases h1
/-- a struct is stored in a block of one's own -/
theorem s_stA {t : TypeId} {a x : Operand} {b off : Nat} {cs : Array Value} {t0 : TypeId} {z : Value} {vs : List Value} {sz by_ : Nat} (i : Nat) (hi : L[i]? = some (pt b (.cells cs t0 (0, 0)))) (hy : Ty P t z sz by_) (ha : ev ρ a = .pointer (some ⟨b, off, none⟩)) (hx : ev ρ x = .agg vs.toArray) (hn : vs.length = sz) (h1 : (vs.all fun v => oneC v) = true) (hoff : Nat.ble (off + sz) cs.toList.length = true)
    (H : Hd s w L) (k : ∀ w', Hd s w' (L.set i (pt b (.cells (cs.toList.take off ++ vs ++ cs.toList.drop (off + vs.length)).toArray t0))) → K undef w') : St P ⟨d, .store t a x, ty, ps, af, g⟩ ρ w K :=
  s_storeA i hi hy ha hx hn (fun v hv => List.all_eq_true.1 h1 v hv) (by have := Nat.le_of_ble_eq_true hoff; simpa using this) H k
/-- part of a row -/
theorem sub_row {b o : Nat} {vs vs' : List Value} (k : Nat) (hc : ∀ (j : Nat) (u : Value), vs[j]? = some u → w.cell? ⟨b, o + j, none⟩ = some u) (hv : (vs.drop k).take vs'.length = vs') : ∀ (j : Nat) (u : Value), vs'[j]? = some u → w.cell? ⟨b, o + k + j, none⟩ = some u := by
  intro j u hj
  have h1 : ((vs.drop k).take vs'.length)[j]? = some u := by rw [hv]; exact hj
  rw [List.getElem?_take] at h1
  split at h1
  · rw [List.getElem?_drop] at h1
    have := hc _ _ h1
    rwa [← Nat.add_assoc] at this
  · cases h1
/-! texts in order -/
def sLt (a b : ByteArray) : Prop := Op.bytesLess a.toList b.toList = true
instance (a b : ByteArray) : Decidable (sLt a b) := inferInstanceAs (Decidable (_ = true))
theorem sLt_dec (a b : ByteArray) : Op.bytesLess a.toList b.toList = decide (sLt a b) := by
  cases h : Op.bytesLess a.toList b.toList with
  | true => exact (decide_eq_true h).symm
  | false => exact (decide_eq_false (fun e => by rw [sLt, h] at e; cases e)).symm
theorem x_lssS {t t2 : TypeId} {x y : Operand} {a b : ByteArray} (hx : ev ρ x = .string a) (hy : ev ρ y = .string b) :
    (execOp (ev ρ) ⟨d, .binOp .lss t x y t2, ty, ps, af, g⟩).run P w = .ok (.value (.bool (decide (sLt a b)))) w := x_binS hx hy (by simp only [Op.stringOp, Sem.run_pure, sLt_dec])
theorem x_leqS {t t2 : TypeId} {x y : Operand} {a b : ByteArray} (hx : ev ρ x = .string a) (hy : ev ρ y = .string b) :
    (execOp (ev ρ) ⟨d, .binOp .leq t x y t2, ty, ps, af, g⟩).run P w = .ok (.value (.bool (decide (sLt a b ∨ a = b)))) w := x_binS hx hy (by simp only [Op.stringOp, Sem.run_pure, sLt_dec, str_eq, Bool.decide_or])
theorem x_gtrS {t t2 : TypeId} {x y : Operand} {a b : ByteArray} (hx : ev ρ x = .string a) (hy : ev ρ y = .string b) :
    (execOp (ev ρ) ⟨d, .binOp .gtr t x y t2, ty, ps, af, g⟩).run P w = .ok (.value (.bool (decide (¬ (sLt a b ∨ a = b))))) w := x_binS hx hy (by simp only [Op.stringOp, Sem.run_pure, sLt_dec, str_eq]; by_cases h1 : sLt a b <;> by_cases h2 : a = b <;> simp [h1, h2])
theorem x_geqS {t t2 : TypeId} {x y : Operand} {a b : ByteArray} (hx : ev ρ x = .string a) (hy : ev ρ y = .string b) :
    (execOp (ev ρ) ⟨d, .binOp .geq t x y t2, ty, ps, af, g⟩).run P w = .ok (.value (.bool (decide (¬ sLt a b)))) w := x_binS hx hy (by simp only [Op.stringOp, Sem.run_pure, sLt_dec]; by_cases h1 : sLt a b <;> simp [h1])
/-- structs compared -/
theorem x_eqlA {t t2 : TypeId} {x y : Operand} {p : Prop} [Decidable p] {xs ys : List Value} (hg : P.eqGuardType P.depth t = false) (hx : ev ρ x = .agg xs.toArray) (hy : ev ρ y = .agg ys.toArray) (hv : (Op.equal t (.agg xs.toArray) (.agg ys.toArray)).run P w = .ok (decide p) w) : (execOp (ev ρ) ⟨d, .binOp .eql t x y t2, ty, ps, af, g⟩).run P w = .ok (.value (.bool (decide p))) w := by
  refine x_cmp hx hy (by simp [eqGuard, Sem.run_pure, Sem.run_bind, run_program, Result.andThen, hg]) ?_
  simp [binOp, Sem.run_bind, hv, Result.andThen, Sem.run_pure]
theorem x_neqA {t t2 : TypeId} {x y : Operand} {p : Prop} [Decidable p] {xs ys : List Value} (hg : P.eqGuardType P.depth t = false) (hx : ev ρ x = .agg xs.toArray) (hy : ev ρ y = .agg ys.toArray) (hv : (Op.equal t (.agg xs.toArray) (.agg ys.toArray)).run P w = .ok (decide p) w) : (execOp (ev ρ) ⟨d, .binOp .neq t x y t2, ty, ps, af, g⟩).run P w = .ok (.value (.bool (decide (¬ p)))) w := by
  refine x_cmp hx hy (by simp [eqGuard, Sem.run_pure, Sem.run_bind, run_program, Result.andThen, hg]) ?_
  simp [binOp, Sem.run_bind, hv, Result.andThen, Sem.run_pure]
end
section
variable {P : Program} {w : World} {ρ : Nat → Value} {fn : Func} {R : Value → World → Prop}
theorem RetM.cell1A {a : Tmp} {ta : TypeId} {b o : Nat} {da : TypeDesc} {z : Value} {sz by_ : Nat} {vs : List Value} (h : fn.results = #[.cell a ta]) (ha : ρ a = .pointer (some ⟨b, o, none⟩)) (ua : P.underlying ta = some da) (ga : aggD da = true) (hy : Ty P ta z sz by_) (hn : vs.length = sz)
    (ca : ∀ j u, vs[j]? = some u → w.cell? ⟨b, o + j, none⟩ = some u) (hR : R (.agg vs.toArray) w) : RetM P fn R ρ [] w := fun tmps ht => by
  refine ⟨_, ?_, hR⟩
  have h1 := ht a
  rw [ha] at h1
  have e1 := run_loadVarA (P := P) ua ga hy hn (p := ⟨b, o, none⟩) (fun j u hj => by rw [add_plain]; exact ca j u hj)
  simp only [Array.getD_eq_getD_getElem?] at h1
  simp [results, h, Sem.run_bind, h1, asAddr, Result.andThen, Sem.run_pure, e1]
end
end KE
set_option linter.unusedVariables false
set_option linter.unusedSimpArgs false
namespace KE
open Go Go.RowKit
section
variable {P : Program} {w : World}
/-- the fields of two structs compared, one behind the other -/
inductive EqF (P : Program) (w : World) (n : Nat) (xs ys : Array Value) : List Field → Bool → Prop
  | nil : EqF P w n xs ys [] true
  | no {f : Field} {fs : List Field} {x y : Value} (hn : f.name ≠ "_") (hx : (part f.type xs f.offset).run P w = .ok x w) (hy : (part f.type ys f.offset).run P w = .ok y w) (he : (Op.equalIn n f.type x y).run P w = .ok false w) : EqF P w n xs ys (f :: fs) false
  | yes {f : Field} {fs : List Field} {x y : Value} {b : Bool} (hn : f.name ≠ "_") (hx : (part f.type xs f.offset).run P w = .ok x w) (hy : (part f.type ys f.offset).run P w = .ok y w) (he : (Op.equalIn n f.type x y).run P w = .ok true w) (r : EqF P w n xs ys fs b) : EqF P w n xs ys (f :: fs) b
theorem EqF.run {n : Nat} {t : TypeId} {fs : List Field} {xs ys : Array Value} {b : Bool} (ht : P.underlying t = some (.struct fs.toArray)) (hs : P.stoodInHeld t = false) (h : EqF P w n xs ys fs b) : (Op.equalIn (n + 1) t (.agg xs) (.agg ys)).run P w = .ok b w := by
  simp only [Op.equalIn, Sem.run_bind, run_under ht, run_program, Result.andThen, hs, Bool.false_eq_true, if_false]
  rw [← Array.forIn_toList]
  simp only
  clear ht
  induction h with
  | nil => simp [Sem.run_pure, Result.andThen]
  | no hn hx hy he =>
    simp [List.forIn_cons, Sem.run_bind, hn, hx, hy, he, Result.andThen, Sem.run_pure]
  | yes hn hx hy he r ih =>
    simp [List.forIn_cons, Sem.run_bind, hn, hx, hy, he, Result.andThen, Sem.run_pure] at ih ⊢
    exact ih
theorem part1 {t : TypeId} {d : TypeDesc} {cs : Array Value} {off : Nat} {v : Value} (ht : P.underlying t = some d) (hd : aggD d = false) (hv : cs[off]? = some v) : (part t cs off).run P w = .ok v w := by
  simp [part, Sem.run_bind, run_isAgg ht, hd, Result.andThen, hv, Sem.run_pure]
theorem partA {t : TypeId} {d : TypeDesc} {z : Value} {sz by_ : Nat} {cs : Array Value} {off : Nat} (ht : P.underlying t = some d) (hd : aggD d = true) (hy : Ty P t z sz by_) : (part t cs off).run P w = .ok (.agg (cs.extract off (off + sz))) w := by
  simp [part, Sem.run_bind, run_isAgg ht, hd, Result.andThen, hy.size, Sem.run_pure]
theorem eqIn_str {n : Nat} {t : TypeId} {a b : ByteArray} (ht : P.underlying t = some .string) : (Op.equalIn (n + 1) t (.string a) (.string b)).run P w = .ok (decide (a = b)) w := by
  simp [Op.equalIn, Sem.run_bind, run_under ht, Result.andThen, Sem.run_pure, ba_beq]
theorem eqIn_int {n : Nat} {t : TypeId} {k : IntKind} {a b : Int} (ht : P.underlying t = some (.int k)) : (Op.equalIn (n + 1) t (.int k a) (.int k b)).run P w = .ok (decide (a = b)) w := by
  simp [Op.equalIn, Sem.run_bind, run_under ht, Result.andThen, Sem.run_pure]
  by_cases h : a = b <;> simp [h]
theorem EqF.one {n : Nat} {xs ys : Array Value} {f : Field} {fs : List Field} {x y : Value} {p : Prop} [Decidable p] {b : Bool} (hn : f.name ≠ "_") (hx : (part f.type xs f.offset).run P w = .ok x w) (hy : (part f.type ys f.offset).run P w = .ok y w) (he : (Op.equalIn n f.type x y).run P w = .ok (decide p) w) (r : EqF P w n xs ys fs b) :
    EqF P w n xs ys (f :: fs) (decide p && b) := by
  by_cases h : p
  · rw [decide_eq_true h] at he ⊢; rw [Bool.true_and]; exact .yes hn hx hy he r
  · rw [decide_eq_false h] at he ⊢; exact .no hn hx hy he
end
end KE
namespace KE
open Go Go.RowKit
section
variable {P : Program} {w : World} {ρ : Nat → Value} {d : Option Tmp} {ty : TypeId} {ps : String} {af : Array Edge} {g : Option (Nat × Bool)} {s : Sy} {L : List Hp} {K : Value → World → Prop}
theorem eql_sl_nil {t e : TypeId} {a : Option Addr} {n c : Nat} (ht : P.underlying t = some (.slice e)) : (Op.equal t (.slice a n c) (.slice none 0 0)).run P w = .ok a.isNone w := by
  have : ∀ m, (Op.equalIn (m + 1) t (.slice a n c) (.slice none 0 0)).run P w = .ok a.isNone w := fun m => by
    cases a <;> simp [Op.equalIn, Sem.run_bind, run_under ht, Result.andThen, Sem.run_pure]
  exact this 9999
theorem x_eqlSN {t t2 e : TypeId} {x : Operand} {a : Option Addr} {n c : Nat} (ht : P.underlying t = some (.slice e)) (hx : ev ρ x = .slice a n c) : (execOp (ev ρ) ⟨d, .binOp .eql t x (.const (.slice none 0 0)) t2, ty, ps, af, g⟩).run P w = .ok (.value (.bool (decide (a = none)))) w := by
  refine x_cmp (b := .slice none 0 0) hx rfl (by simp [eqGuard, Sem.run_pure]) ?_
  simp [binOp, Sem.run_bind, eql_sl_nil (P := P) (w := w) ht, Result.andThen, Sem.run_pure]
  cases a <;> rfl
/-- a row is stored in a slice of one's own -/
theorem s_storeRow {t e : TypeId} {a x : Operand} {v : Value} {n sz : Nat} {cs : List Value} {z : Value} {vs : List Value} {by_ b o c k : Nat} (i : Nat) (hi : L[i]? = some (Sl v e sz n cs)) (hv : v = .slice (some ⟨b, o, none⟩) n c) (hk : k < n) (hy : Ty P t z sz by_) (ha : ev ρ a = .pointer (some ⟨b, o + k * sz, none⟩)) (hx : ev ρ x = .agg vs.toArray) (hn : vs.length = sz) (h1 : ∀ v ∈ vs, oneC v = true)
    (H : Hd s w L) (kk : ∀ w', Hd s w' (L.set i (Sl v e sz n (cs.take (k * sz) ++ vs ++ cs.drop (k * sz + sz)))) → K undef w') : St P ⟨d, .store t a x, ty, ps, af, g⟩ ρ w K := by
  subst hv
  obtain ⟨⟨hl, hnb⟩, H1⟩ := Hd.unand (H.pick i hi)
  obtain ⟨q, ⟨hq1, _⟩, H2⟩ := Hd.opn (φ := fun q => SlB (.slice (some ⟨b, o, none⟩) n c) e sz n cs q ∧ True) (q := fun q => pt q.1 (.cells q.2.2.2 e (0, 0))) H1 (by
    rintro x (⟨h1, _⟩ | ⟨q, h1, h2⟩)
    · cases h1
    · exact ⟨q, ⟨h1, trivial⟩, h2⟩)
  obtain ⟨b', o', c', all⟩ := q
  obtain ⟨e1, e2, e3, e4⟩ := hq1
  simp only [Value.slice.injEq, Option.some.injEq, Addr.mk.injEq] at e1
  obtain ⟨⟨rfl, rfl, _⟩, _, rfl⟩ := e1
  simp only at e2 e3 e4 H2
  have hkc : k * sz + sz ≤ c * sz := by rw [← Nat.succ_mul]; exact Nat.mul_le_mul_right _ (by omega)
  have hkn : k * sz + sz ≤ n * sz := by rw [← Nat.succ_mul]; exact Nat.mul_le_mul_right _ (by omega)
  have hlt : o + k * sz + sz ≤ all.size := by omega
  refine s_storeA (cs := all) 0 rfl hy ha hx hn h1 hlt H2 (fun w' H3 => kk w' ?_)
  have hc : (cs.take (k * sz)).length = k * sz := by rw [List.length_take, hl]; omega
  refine Hd.back hi (Hd.weak H3 fun h hp => ⟨⟨by rw [List.length_append, List.length_append, hc, hn, List.length_drop, hl]; omega, hnb⟩, .inr ⟨(b, o, c, (all.toList.take (o + k * sz) ++ vs ++ all.toList.drop (o + k * sz + vs.length)).toArray), ⟨rfl, e2, by simp [hn]; omega, ?_⟩, hp⟩⟩)
  intro j uu hj
  show (all.toList.take (o + k * sz) ++ vs ++ all.toList.drop (o + k * sz + vs.length)).toArray[o + j]? = some uu
  rw [List.getElem?_toArray]
  have ha : (all.toList.take (o + k * sz)).length = o + k * sz := by simp; omega
  rcases Nat.lt_or_ge j (k * sz) with h | h
  · rw [List.append_assoc, List.getElem?_append_left (by omega), List.getElem?_take, if_pos h] at hj
    rw [List.append_assoc, List.getElem?_append_left (by omega), List.getElem?_take, if_pos (by omega)]
    simpa using e4 j uu hj
  · rcases Nat.lt_or_ge j (k * sz + sz) with h' | h'
    · rw [List.getElem?_append_left (by rw [List.length_append]; omega), List.getElem?_append_right (by omega), hc] at hj
      rw [List.getElem?_append_left (by rw [List.length_append]; omega), List.getElem?_append_right (by omega), ha, show o + j - (o + k * sz) = j - k * sz from by omega]
      exact hj
    · rw [List.getElem?_append_right (by rw [List.length_append]; omega), List.length_append, hc, hn, List.getElem?_drop, show k * sz + sz + (j - (k * sz + sz)) = j from by omega] at hj
      rw [List.getElem?_append_right (by rw [List.length_append]; omega), List.length_append, ha, hn, List.getElem?_drop, show o + k * sz + sz + (o + j - (o + k * sz + sz)) = o + j from by omega]
      simpa using e4 j uu hj
end
end KE
namespace KE
open Go Go.RowKit
section
variable {P : Program} {w : World} {ρ : Nat → Value} {d : Option Tmp} {ty : TypeId} {ps : String} {af : Array Edge} {g : Option (Nat × Bool)} {s : Sy} {L : List Hp} {K : Value → World → Prop}
theorem s_nextV {x : Operand} {st : ByteArray} {b p : Nat} (i : Nat) (hi : L[i]? = some (pt b (.stringIter st p))) (hx : ev ρ x = .pointer (some ⟨b, 0, none⟩)) (H : Hd s w L)
    (k1 : ∀ (hp : p < st.size) (_ : st[p].toNat < 128) w', Hd s w' (L.set i (pt b (.stringIter st (p + 1)))) → K (.tuple #[.bool true, .int .i64 p, .int .i32 (st[p].toNat : Nat)]) w')
    (k2 : ∀ (hp : p < st.size) (_ : ¬ st[p].toNat < 128) (c q : Nat) (_ : 128 ≤ c) w', Hd s w' (L.set i (pt b (.stringIter st q))) → K (.tuple #[.bool true, .int .i64 p, .int .i32 (c : Nat)]) w')
    (k0 : ¬ p < st.size → K (.tuple #[.bool false]) w) : St P ⟨d, .next x true, ty, ps, af, g⟩ ρ w K :=
  s_nextS i hi hx H (fun hp w' H' => by
    by_cases h : st[p].toNat < 128
    · have hd := decode_ascii hp h
      rw [hd] at H' ⊢
      exact k1 hp h w' H'
    · exact k2 hp h _ _ (decode_high hp h).1 w' H') k0
end
end KE
namespace KE
open Go Go.RowKit
section
variable {P : Program} {w : World} {ρ : Nat → Value} {d : Option Tmp} {ty : TypeId} {ps : String} {af : Array Edge} {g : Option (Nat × Bool)}
theorem x_indexSN {t : TypeId} {x ix : Operand} {st : ByteArray} {k : IntKind} {i : Nat} (ht : P.underlying t = some .string) (hx : ev ρ x = .string st) (hi : ev ρ ix = .int k (i : Int)) (h1 : i < st.size) :
    (execOp (ev ρ) ⟨d, .index t x ix, ty, ps, af, g⟩).run P w = .ok (.value (.int .u8 ((st[i].toNat : Nat) : Int))) w := x_indexS ht hx hi (by omega) h1
end
end KE
set_option linter.unusedVariables false
set_option linter.unusedSimpArgs false
namespace KE
open Go Go.RowKit
/-! ### memory that stays as it is: a growing part that anyone may read -/
abbrev Sub := Nat → Option Obj
/-- all of g, as it is -/
def fz (g : Sub) : Hp := fun h => ∀ i o, g i = some o → h i = some o
def sle (g g' : Sub) : Prop := ∀ i o, g i = some o → g' i = some o
theorem sle.refl (g : Sub) : sle g g := fun _ _ h => h
theorem sle.trans {a b c : Sub} (h : sle a b) (k : sle b c) : sle a c := fun i o x => k i o (h i o x)
/-- what g alone tells of every world that holds it -/
def Fx (g : Sub) (Φ : World → Prop) : Prop := ∀ w, hsub g w → Φ w
theorem Fx.mono {g g' : Sub} {Φ : World → Prop} (h : Fx g Φ) (k : sle g g') : Fx g' Φ := fun w hw => h w fun i o x => hw i o (k i o x)
theorem Fx.imp {g : Sub} {Φ Ψ : World → Prop} (h : Fx g Φ) (k : ∀ w, Φ w → Ψ w) : Fx g Ψ := fun w hw => k w (h w hw)
def ofW (w : World) : Sub := fun i => w.heap[i]?
section
variable {w : World} {s : Sy} {L : List Hp} {A : Hp} {g : Sub} {Φ : World → Prop}
theorem Hd.fz (H : Hd s w L) (i : Nat) (hi : L[i]? = some (KE.fz g)) : hsub g w := by
  obtain ⟨h, h1, h2⟩ := H.fact_at i hi
  exact fun k o hk => h1 _ _ (h2 k o hk)
theorem Fx.at (hf : Fx g Φ) (H : Hd s w L) (i : Nat) (hi : L[i]? = some (fz g)) : Φ w := hf w (H.fz i hi)
theorem Fx.in (hf : Fx g Φ) (H : Hd s w L) (hm : fz g ∈ L) : Φ w := by
  obtain ⟨i, hi⟩ := List.getElem?_of_mem hm
  exact hf.at H i hi
theorem Hd.startZ (w : World) : Hd (sy w) w [KE.fz (ofW w)] := Hd.start w
theorem Hd.belowZ {w0 : World} (H : Hd (sy w0) w L) (i : Nat) (hi : L[i]? = some (KE.fz g)) (hg : sle (ofW w0) g) : Ext w0 w := by
  have H1 := (H.pick i hi).weak (q := fr w0) fun h hh k o hk => hh k o (hg k o hk)
  exact H1.below 0 rfl
/-- what is one's own becomes memory that stays -/
theorem Hd.freeze (H : Hd s w (A :: KE.fz g :: L)) (hA : ∀ (w : World) (h : Sub), hsub h w → A h → Φ w) : ∃ g', sle g g' ∧ Fx g' Φ ∧ Hd s w (KE.fz g' :: L) := by
  obtain ⟨h0, h, hs, a, b, hd, he, ha, c, d, hd2, he2, hc, hL⟩ := H
  subst he he2
  obtain ⟨k1, k2⟩ := hdis_hor_l hd
  refine ⟨hor c a, ?_, ?_, h0, hor a (hor c d), hs, hor c a, d, ?_, ?_, fun _ _ h => h, hL⟩
  · intro i o hi
    have := hc i o hi
    simp [hor, this]
  · intro w' hw'
    refine hA w' a (fun i o hi => hw' i o ?_) ha
    rcases k1 i with h1 | h1
    · rw [h1] at hi; cases hi
    · simp [hor, h1, hi]
  · intro i
    rcases hd2 i with h1 | h1
    · rcases k2 i with h2 | h2
      · left; simp [hor, h1, h2]
      · right; exact h2
    · right; exact h1
  · rw [← hor_assoc, hor_comm k1]
theorem Hd.freezeSl {v : Value} {e : TypeId} {sz n : Nat} {cs : List Value} (H : Hd s w (Sl v e sz n cs :: KE.fz g :: L)) : ∃ g', sle g g' ∧ Fx g' (fun w => RdC w v sz n cs) ∧ Hd s w (KE.fz g' :: L) :=
  H.freeze fun w h hs ha => Sl.rd hs ha
end
end KE
namespace KE
open Go Go.RowKit
section
variable {P : Program} {w : World} {ρ : Nat → Value} {fn : Func} {R : Value → World → Prop}
theorem RetM.cellAT {a t : Tmp} {ta : TypeId} {b o : Nat} {da : TypeDesc} {z v : Value} {sz by_ : Nat} {vs : List Value} (h : fn.results = #[.cell a ta, .tmp t]) (ha : ρ a = .pointer (some ⟨b, o, none⟩)) (ht : ρ t = v) (ua : P.underlying ta = some da) (ga : aggD da = true) (hy : Ty P ta z sz by_) (hn : vs.length = sz)
    (ca : ∀ j u, vs[j]? = some u → w.cell? ⟨b, o + j, none⟩ = some u) (hR : R (.tuple #[.agg vs.toArray, v]) w) : RetM P fn R ρ [] w := fun tmps hh => by
  refine ⟨_, ?_, hR⟩
  have h1 := hh a
  have h2 := hh t
  rw [ha] at h1
  rw [ht] at h2
  have e1 := run_loadVarA (P := P) ua ga hy hn (p := ⟨b, o, none⟩) (fun j u hj => by rw [add_plain]; exact ca j u hj)
  simp only [Array.getD_eq_getD_getElem?] at h1 h2
  simp [results, h, Sem.run_bind, h1, h2, asAddr, Result.andThen, Sem.run_pure, e1]
end
end KE
set_option linter.unusedVariables false
set_option linter.unusedSimpArgs false
namespace KE
open Go Go.RowKit
theorem flat_set {α β : Type} {f : α → List β} {sz : Nat} (hf : ∀ x, (f x).length = sz) : ∀ {xs : List α} {k : Nat} (y : α), k < xs.length → (xs.flatMap f).take (k * sz) ++ f y ++ (xs.flatMap f).drop (k * sz + sz) = (xs.set k y).flatMap f
  | x :: xs, 0, y, _ => by
    simp only [Nat.zero_mul, List.take_zero, List.nil_append, Nat.zero_add, List.set_cons_zero, List.flatMap_cons]
    rw [List.drop_append_of_le_length (by rw [hf]; exact Nat.le_refl _), ← hf x, List.drop_length, List.nil_append]
  | x :: xs, k + 1, y, h => by
    have ih := flat_set hf (xs := xs) (k := k) y (by simpa using h)
    simp only [List.flatMap_cons, List.set_cons_succ]
    rw [← ih]
    have e1 : (k + 1) * sz = (f x).length + k * sz := by rw [hf, Nat.succ_mul]; omega
    have e2 : (k + 1) * sz + sz = (f x).length + (k * sz + sz) := by rw [e1]; omega
    rw [e2, e1, List.take_length_add_append, List.drop_length_add_append]
    simp [List.append_assoc]
section
variable {P : Program} {w : World} {ρ : Nat → Value} {d : Option Tmp} {ty : TypeId} {ps : String} {af : Array Edge} {g : Option (Nat × Bool)} {s : Sy} {L : List Hp} {K : Value → World → Prop}
/-- an element of a slice of rows of one's own is written -/
theorem s_storeRowF {α : Type} {t e : TypeId} {a x : Operand} {v : Value} {n sz : Nat} {f : α → List Value} {xs : List α} {y : α} {z : Value} {by_ b o c k : Nat} (i : Nat) (hf : ∀ x, (f x).length = sz) (hi : L[i]? = some (Sl v e sz n (xs.flatMap f))) (hv : v = .slice (some ⟨b, o, none⟩) n c) (hk : k < n) (hl : n = xs.length) (hy : Ty P t z sz by_) (ha : ev ρ a = .pointer (some ⟨b, o + k * sz, none⟩)) (hx : ev ρ x = .agg (f y).toArray) (h1 : ((f y).all fun v => oneC v) = true)
    (H : Hd s w L) (kk : ∀ w', Hd s w' (L.set i (Sl v e sz n ((xs.set k y).flatMap f))) → K undef w') : St P ⟨d, .store t a x, ty, ps, af, g⟩ ρ w K :=
  s_storeRow i hi hv hk hy ha hx (hf y) (fun u hu => List.all_eq_true.1 h1 u hu) H (fun w' H' => kk w' (by rw [flat_set hf y (by omega)] at H'; exact H'))
end
end KE
set_option linter.unusedVariables false
set_option linter.unusedSimpArgs false
namespace KE
open Go Go.RowKit
section
variable {P : Program} {w : World} {ρ : Nat → Value} {d : Option Tmp} {ty : TypeId} {ps : String} {af : Array Edge} {g : Option (Nat × Bool)} {s : Sy} {L : List Hp} {K : Value → World → Prop}
/-! arrays -/
theorem x_buildAr {t e : TypeId} {n : Nat} {parts : List (Nat × Operand)} {z ze : Value} {szt byt by_ : Nat} {cells : List Value} (ht : P.underlying t = some (.array n e)) (hy : Ty P t z szt byt) (he : Ty P e ze 1 by_)
    (hf : fillL (fun i => some (i * 1, 1)) z.cells.toList (parts.map fun p => (p.1, ev ρ p.2)) = some cells) :
    (execOp (ev ρ) ⟨d, .build t parts.toArray, ty, ps, af, g⟩).run P w = .ok (.value (.agg cells.toArray)) w := by
  simp only [execOp, Instr.build, Sem.run_bind, hy.zero, run_under ht, Result.andThen, he.size]
  rw [List.map_toArray, ← Array.toArray_toList (xs := z.cells), fill_fillL, hf]
  simp [Sem.run_pure]
theorem x_indexAr {t e : TypeId} {n : Nat} {x ix : Operand} {z v : Value} {by_ : Nat} {de : TypeDesc} {cs : Array Value} {k : IntKind} {i : Nat} (ht : P.underlying t = some (.array n e)) (he : Ty P e z 1 by_) (ue : P.underlying e = some de) (hd : aggD de = false)
    (hx : ev ρ x = .agg cs) (hi : ev ρ ix = .int k (i : Int)) (h1 : i < n) (hc : cs[i]? = some v) :
    (execOp (ev ρ) ⟨d, .index t x ix, ty, ps, af, g⟩).run P w = .ok (.value v) w := by
  have hp := part1 (P := P) (w := w) (t := e) (off := i) ue hd hc
  have h1' : (i : Int) < n := by omega
  simp only [execOp, Sem.run_bind, Instr.index, asIntOf, hx, hi, run_under ht, Result.andThen]
  simp [Sem.run_bind, Sem.run_pure, Result.andThen, run_under ht, he.size, h1', h1, hp]
/-! parts of a slice -/
theorem flat_take {α β : Type} {f : α → List β} {sz : Nat} (hf : ∀ x, (f x).length = sz) : ∀ (xs : List α) (k : Nat), (xs.flatMap f).take (k * sz) = (xs.take k).flatMap f
  | [], k => by simp
  | x :: xs, 0 => by simp
  | x :: xs, k + 1 => by
    rw [List.flatMap_cons, List.take_succ_cons, List.flatMap_cons, List.take_append, hf, List.take_of_length_le (by rw [hf, Nat.succ_mul]; omega), show (k + 1) * sz - sz = k * sz by rw [Nat.succ_mul]; omega, flat_take hf xs k]
theorem flat_drop {α β : Type} {f : α → List β} {sz : Nat} (hf : ∀ x, (f x).length = sz) : ∀ (xs : List α) (k : Nat), (xs.flatMap f).drop (k * sz) = (xs.drop k).flatMap f
  | [], k => by simp
  | x :: xs, 0 => by simp
  | x :: xs, k + 1 => by
    rw [List.flatMap_cons, List.drop_succ_cons, List.drop_append, hf, List.drop_of_length_le (by rw [hf, Nat.succ_mul]; omega), List.nil_append, show (k + 1) * sz - sz = k * sz by rw [Nat.succ_mul]; omega, flat_drop hf xs k]
theorem Hd.shrink {a : Option Addr} {e : TypeId} {sz n c m : Nat} {cs : List Value} (H : Hd s w (Sl (.slice a n c) e sz n cs :: L)) (hm : m ≤ n) : Hd s w (Sl (.slice a m c) e sz m (cs.take (m * sz)) :: L) := by
  refine H.weak fun h hh => ?_
  obtain ⟨⟨hl, hn⟩, ⟨h8, h9⟩ | ⟨⟨g, o, c', all⟩, ⟨h8, h9, h10, h11⟩, h12⟩⟩ := hh
  · cases h8
    obtain rfl : m = 0 := by omega
    exact ⟨⟨by simp, by omega⟩, .inl ⟨rfl, rfl⟩⟩
  · simp only [Value.slice.injEq] at h8
    obtain ⟨h8, -, rfl⟩ := h8
    have hmul := Nat.mul_le_mul_right sz hm
    refine ⟨⟨by rw [List.length_take]; omega, by omega⟩, .inr ⟨⟨g, o, c, all⟩, ⟨by rw [h8], Nat.le_trans hm h9, h10, fun j u hj => ?_⟩, h12⟩⟩
    rw [List.getElem?_take] at hj
    split at hj
    · exact h11 j u hj
    · cases hj
theorem Hd.behead {b o : Nat} {e : TypeId} {sz n c k : Nat} {cs : List Value} (H : Hd s w (Sl (.slice (some ⟨b, o, none⟩) n c) e sz n cs :: L)) (hk : k ≤ n) : Hd s w (Sl (.slice (some (if c = k then ⟨b, o, none⟩ else ⟨b, o + k * sz, none⟩)) (n - k) (c - k)) e sz (n - k) (cs.drop (k * sz)) :: L) := by
  refine H.weak fun h hh => ?_
  obtain ⟨⟨hl, hn⟩, ⟨h8, h9⟩ | ⟨⟨g, o', c', all⟩, ⟨h8, h9, h10, h11⟩, h12⟩⟩ := hh
  · cases h8
  · simp only [Value.slice.injEq, Option.some.injEq, Addr.mk.injEq] at h8
    obtain ⟨⟨rfl, rfl, -⟩, -, rfl⟩ := h8
    have h9 : n ≤ c := h9
    have h10 : o + c * sz ≤ all.size := h10
    have hmul := Nat.mul_le_mul_right sz hk
    have hmul2 := Nat.mul_le_mul_right sz (Nat.le_trans hk h9)
    have e1 : (n - k) * sz = n * sz - k * sz := Nat.sub_mul _ _ _
    have e2 : (c - k) * sz = c * sz - k * sz := Nat.sub_mul _ _ _
    refine ⟨⟨by rw [List.length_drop]; omega, by omega⟩, .inr ?_⟩
    by_cases hc : c = k
    · obtain rfl : n = k := by omega
      rw [if_pos hc]
      refine ⟨⟨b, o, c - n, all⟩, ⟨rfl, by simp, by show o + (c - n) * sz ≤ all.size; omega, fun j u hj => ?_⟩, h12⟩
      rw [List.getElem?_drop] at hj
      have := (List.getElem?_eq_some_iff.1 hj).1
      omega
    · rw [if_neg hc]
      refine ⟨⟨b, o + k * sz, c - k, all⟩, ⟨rfl, by show n - k ≤ c - k; omega, by show o + k * sz + (c - k) * sz ≤ all.size; omega, fun j u hj => ?_⟩, h12⟩
      rw [List.getElem?_drop] at hj
      have := h11 _ u hj
      simp only at this ⊢
      rw [Nat.add_assoc]; exact this
/-- what is gathered in a box that holds a slice -/
def outI {α : Type} (b : Nat) (t e : TypeId) (sz : Nat) (f : α → List Value) (pre : List α) : Hp := fun m => ∃ v : Value, True ∧ star (pt b (.cells #[v] t (0, 0))) (Sl v e sz pre.length (pre.flatMap f)) m
theorem outI.opn {α : Type} {b : Nat} {t e : TypeId} {sz : Nat} {f : α → List Value} {pre : List α} (H : Hd s w (outI b t e sz f pre :: L)) : ∃ v, Hd s w (pt b (.cells #[v] t (0, 0)) :: Sl v e sz pre.length (pre.flatMap f) :: L) := by
  obtain ⟨v, _, H⟩ := Hd.opn (φ := fun _ => True) H (fun h hh => hh)
  exact ⟨v, H.unstar⟩
theorem outI.mk {α : Type} {b : Nat} {t e : TypeId} {sz : Nat} {f : α → List Value} {pre : List α} {v : Value} (H : Hd s w (pt b (.cells #[v] t (0, 0)) :: Sl v e sz pre.length (pre.flatMap f) :: L)) : Hd s w (outI b t e sz f pre :: L) :=
  H.star.weak fun h hh => ⟨v, trivial, hh⟩
end
end KE
