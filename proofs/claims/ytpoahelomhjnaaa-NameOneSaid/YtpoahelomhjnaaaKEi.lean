/-
  The engine of this proof, for any program: more operations. No condition.
-/
import Derived.Test.YtpoahelomhjnaaaKEh
set_option linter.unusedVariables false
set_option linter.unusedSimpArgs false
namespace KE
open Go Go.RowKit

section
variable {P : Program} {w : World} {ρ : Nat → Value} {d : Option Tmp} {ty : TypeId} {ps : String} {af : Array Edge} {g : Option (Nat × Bool)} {s : Sy} {L : List Hp} {K : Value → World → Prop}
/-! slices of slices -/
theorem x_sliceTo {t e : TypeId} {x h : Operand} {a : Option Addr} {n c : Nat} {k : IntKind} {i : Int} {z : Value} {sz by_ : Nat} (ht : P.underlying t = some (.slice e)) (hy : Ty P e z sz by_) (hx : ev ρ x = .slice a n c) (hh : ev ρ h = .int k i) (h0 : 0 ≤ i) (h1 : i ≤ c) :
    (execOp (ev ρ) ⟨d, .slice t x none (some h) none, ty, ps, af, g⟩).run P w = .ok (.value (.slice a i.toNat c)) w := by
  simp only [execOp, Instr.sliceAt, Sem.run_bind, run_under ht, Result.andThen, hx, Option.map_some, Option.map_none, hh]
  simp [Instr.slice, Instr.sliceBounds, Instr.sliceBound, asIntOf, Sem.run_bind, run_under ht, Result.andThen, Sem.run_pure, hy.size, h0, h1]
  cases a with
  | none => simp
  | some a => simp [Addr.add]
theorem x_sliceFrom {t e : TypeId} {x l : Operand} {b o n c : Nat} {k : IntKind} {i : Int} {z : Value} {sz by_ : Nat} (ht : P.underlying t = some (.slice e)) (hy : Ty P e z sz by_) (hx : ev ρ x = .slice (some ⟨b, o, none⟩) n c) (hl : ev ρ l = .int k i) (h0 : 0 ≤ i) (h1 : i ≤ n) (hc : n ≤ c) :
    (execOp (ev ρ) ⟨d, .slice t x (some l) none none, ty, ps, af, g⟩).run P w = .ok (.value (.slice (some (if c = i.toNat then ⟨b, o, none⟩ else ⟨b, o + i.toNat * sz, none⟩)) (n - i.toNat) (c - i.toNat))) w := by
  simp only [execOp, Instr.sliceAt, Sem.run_bind, run_under ht, Result.andThen, hx, Option.map_some, Option.map_none, hl]
  simp [Instr.slice, Instr.sliceBounds, Instr.sliceBound, asIntOf, Sem.run_bind, run_under ht, Result.andThen, Sem.run_pure, hy.size, h0, h1, add_plain]
  split <;> rfl
theorem x_cap {t e : TypeId} {x : Operand} {a : Option Addr} {n c : Nat} {ats : Array TypeId} (ht : P.underlying t = some (.slice e)) (ha : ats[0]? = some t) (hx : ev ρ x = .slice a n c) :
    (execOp (ev ρ) ⟨d, .call { callee := .builtin .cap, args := #[x], argTypes := ats }, ty, ps, af, g⟩).run P w = .ok (.value (.int .i64 c)) w := by
  simp [execOp, resolve, invoke, builtin, Builtin.cap_, ha, hx, Sem.run_bind, Result.andThen, Sem.run_pure, run_under ht, goInt]
theorem x_min {x y : Operand} {a b : Int} {k : IntKind} {ats : Array TypeId} (hx : ev ρ x = .int k a) (hy : ev ρ y = .int k b) :
    (execOp (ev ρ) ⟨d, .call { callee := .builtin .min, args := #[x, y], argTypes := ats }, ty, ps, af, g⟩).run P w = .ok (.value (.int k (if b < a then b else a))) w := by
  simp [execOp, resolve, invoke, builtin, Builtin.min_, Builtin.min2, hx, hy, Sem.run_bind, Result.andThen, Sem.run_pure]
theorem x_max {x y : Operand} {a b : Int} {k : IntKind} {ats : Array TypeId} (hx : ev ρ x = .int k a) (hy : ev ρ y = .int k b) :
    (execOp (ev ρ) ⟨d, .call { callee := .builtin .max, args := #[x, y], argTypes := ats }, ty, ps, af, g⟩).run P w = .ok (.value (.int k (if a < b then b else a))) w := by
  simp [execOp, resolve, invoke, builtin, Builtin.max_, Builtin.max2, hx, hy, Sem.run_bind, Result.andThen, Sem.run_pure]
/-! strings -/
theorem x_indexS {t : TypeId} {x ix : Operand} {st : ByteArray} {k : IntKind} {i : Int} (ht : P.underlying t = some .string) (hx : ev ρ x = .string st) (hi : ev ρ ix = .int k i) (h0 : 0 ≤ i) (h1 : i.toNat < st.size) :
    (execOp (ev ρ) ⟨d, .index t x ix, ty, ps, af, g⟩).run P w = .ok (.value (.int .u8 (st[i.toNat].toNat : Int))) w := by
  simp [execOp, Instr.index, hx, hi, asIntOf, Sem.run_bind, Result.andThen, Sem.run_pure, run_under ht, h0, h1]
theorem x_convI {t u : TypeId} {x : Operand} {k k2 : IntKind} {i : Int} {dd : TypeDesc} (ht : P.underlying t = some dd) (hu : P.underlying u = some (.int k2)) (hx : ev ρ x = .int k i) :
    (execOp (ev ρ) ⟨d, .convert t u x, ty, ps, af, g⟩).run P w = .ok (.value (.int k2 (k2.wrap i))) w := by
  simp [execOp, convert, hx, Sem.run_bind, Result.andThen, Sem.run_pure, run_under ht, run_under hu, Conv.intToInt]
theorem x_shr {t t2 : TypeId} {x y : Operand} {k k2 : IntKind} {a b : Int} (hx : ev ρ x = .int k a) (hy : ev ρ y = .int k2 b) (hb : 0 ≤ b) :
    (execOp (ev ρ) ⟨d, .binOp .shr t x y t2, ty, ps, af, g⟩).run P w = .ok (.value (.int k (a.fdiv (2 ^ (min b.toNat k.bits))))) w := by
  have hg : (eqGuard .shr t x y (.int k a) (.int k2 b)).run P w = .ok () w := by simp [eqGuard, Sem.run_pure]
  simp [execOp, hx, hy, Sem.run_bind, hg, binOp, Op.shift, show ¬ b < 0 by omega, Result.andThen, Sem.run_pure]
/-! an element of a slice of one's own is written -/
theorem s_storeEl {t e : TypeId} {a x : Operand} {v : Value} {n : Nat} {cs : List Value} {z u : Value} {by_ b o c k : Nat} (i : Nat) (hi : L[i]? = some (Sl v e 1 n cs)) (hv : v = .slice (some ⟨b, o, none⟩) n c) (hk : k < n) (hy : Ty P t z 1 by_) (ha : ev ρ a = .pointer (some ⟨b, o + k * 1, none⟩)) (hx : ev ρ x = u) (h1 : oneC u = true)
    (H : Hd s w L) (kk : ∀ w', Hd s w' (L.set i (Sl v e 1 n (cs.set k u))) → K undef w') : St P ⟨d, .store t a x, ty, ps, af, g⟩ ρ w K := by
  subst hv
  obtain ⟨⟨hl, hnb⟩, H1⟩ := Hd.unand (H.pick i hi)
  obtain ⟨q, ⟨hq1, _⟩, H2⟩ := Hd.opn (φ := fun q => SlB (.slice (some ⟨b, o, none⟩) n c) e 1 n cs q ∧ True) (q := fun q => pt q.1 (.cells q.2.2.2 e (0, 0))) H1 (by
    rintro x (⟨h1, _⟩ | ⟨q, h1, h2⟩)
    · cases h1
    · exact ⟨q, ⟨h1, trivial⟩, h2⟩)
  obtain ⟨b', o', c', all⟩ := q
  obtain ⟨e1, e2, e3, e4⟩ := hq1
  simp only [Value.slice.injEq, Option.some.injEq, Addr.mk.injEq] at e1
  obtain ⟨⟨rfl, rfl, _⟩, _, rfl⟩ := e1
  simp only at e2 e3 e4 H2
  rw [Nat.mul_one] at ha e3
  have hlt : o + k < all.size := by omega
  refine s_store (cs := all) 0 rfl hy ha hx h1 hlt H2 (fun w' H3 => kk w' ?_)
  refine Hd.back hi (Hd.weak H3 fun h hp => ⟨⟨by simpa using hl, hnb⟩, .inr ⟨(b, o, c, all.setIfInBounds (o + k) u), ⟨rfl, e2, by simpa using e3, ?_⟩, hp⟩⟩)
  intro j uu hj
  show (all.setIfInBounds (o + k) u)[o + j]? = some uu
  rw [Array.getElem?_setIfInBounds]
  rw [List.getElem?_set] at hj
  by_cases hjk : k = j
  · subst hjk
    rw [if_pos rfl] at hj
    have : k < cs.length := by rw [hl]; omega
    rw [if_pos this] at hj
    rw [if_pos rfl, if_pos hlt]; exact hj
  · rw [if_neg hjk] at hj
    rw [if_neg (by omega)]
    exact e4 j uu hj
/-! a longer view of a slice of one's own -/
theorem RdC.take {v : Value} {n m : Nat} {a : Option Addr} {c : Nat} {cs : List Value} {sz : Nat} (h : RdC w (.slice a n c) sz n cs) (hm : m ≤ n) : RdC w (.slice a m c) sz m (cs.take (m * sz)) := by
  obtain ⟨⟨h1, hnb⟩, ⟨h2, _⟩ | ⟨b, o, c', h2, h3⟩⟩ := h
  · obtain rfl : m = 0 := by omega
    exact ⟨⟨by simp, by omega⟩, .inl ⟨rfl, a, c, rfl⟩⟩
  · simp only [Value.slice.injEq] at h2
    obtain ⟨rfl, _, rfl⟩ := h2
    refine ⟨⟨by rw [List.length_take, h1]; exact Nat.min_eq_left (Nat.mul_le_mul_right _ hm), by omega⟩, .inr ⟨b, o, c, rfl, fun j u hj => h3 j u ?_⟩⟩
    rw [List.getElem?_take] at hj
    split at hj
    · exact hj
    · cases hj
/-! make with a capacity -/
theorem s_makeSlice0 {t e : TypeId} {l c : Operand} {z : Value} {sz by_ : Nat} {m : Nat} {k1 k2 : IntKind} {M : Int} (ht : P.underlying t = some (.slice e)) (hy : Ty P e z sz by_) (hzs : z.cells.size = sz) (hsz : 0 < sz) (hl : ev ρ l = .int k1 0) (hc : ev ρ c = .int k2 M) (hM : M = (m : Int)) (hb : by_ * m ≤ 281474976710656) (hm : m ≤ 9223372036854775807)
    (H : Hd s w L) (k : ∀ b w', Hd s w' (Sl (.slice (some ⟨b, 0, none⟩) 0 m) e sz 0 [] :: L) → K (.slice (some ⟨b, 0, none⟩) 0 m) w') : St P ⟨d, .makeSlice t l c, ty, ps, af, g⟩ ρ w K := by
  subst hM
  obtain ⟨inf, hinf, hz, hsize, hbytes⟩ := hy
  refine ⟨trivial, ?_⟩
  obtain ⟨w', hrun0, hown, hgr⟩ := run_make_own (P := P) w 0 t e inf z sz ht hinf hz hsize k1 k2 m (by rw [hbytes]; exact hb) (by unfold maxLen; omega) (Nat.zero_le _)
  have hrun : (execOp (ev ρ) ⟨d, .makeSlice t l c, ty, ps, af, g⟩).run P w = .ok (.value (.slice (some ⟨w.heap.size, 0, none⟩) 0 m)) w' := by
    simp [execOp, hl, hc, hrun0, Sem.run_bind, Result.andThen, Sem.run_pure]
  rw [hrun]
  rcases hown.2 with ⟨h, _⟩ | ⟨gg, cap, cur, hv, _, hh, _, _, hcs, _⟩
  · cases h
  · simp only [Value.slice.injEq, Option.some.injEq, Addr.mk.injEq] at hv
    obtain ⟨⟨rfl, _⟩, _, rfl⟩ := hv
    have hext : Ext w w' := ⟨hgr.os, hgr.tape, hgr.output, hgr.size, fun k hk => hgr.block k hk (by simp)⟩
    refine k _ _ (Hd.weak (H.fresh hext (Nat.le_refl _) hh) fun h hp => ⟨⟨by simp, by omega⟩, .inr ⟨(w.heap.size, 0, m, cur), ⟨rfl, Nat.zero_le _, by simp [hcs], fun j u hj => by simp at hj⟩, hp⟩⟩)
/-! a range over a string -/
theorem s_rangeS {t : TypeId} {x : Operand} {st : ByteArray} (ht : P.underlying t = some .string) (hx : ev ρ x = .string st) (H : Hd s w L) (k : ∀ b w', Hd s w' (pt b (.stringIter st 0) :: L) → K (.pointer (some ⟨b, 0, none⟩)) w') : St P ⟨d, .range t x, ty, ps, af, g⟩ ρ w K := by
  refine ⟨trivial, ?_⟩
  have : (execOp (ev ρ) ⟨d, .range t x, ty, ps, af, g⟩).run P w = .ok (.value (.pointer (some ⟨w.heap.size, 0, none⟩))) (w.alloc (.stringIter st 0)) := by
    simp [execOp, Instr.range, hx, Sem.run_bind, run_under ht, Result.andThen, Sem.run_pure]
  rw [this]; exact k _ _ (H.alloc _)
theorem s_nextS {x : Operand} {st : ByteArray} {b p : Nat} (i : Nat) (hi : L[i]? = some (pt b (.stringIter st p))) (hx : ev ρ x = .pointer (some ⟨b, 0, none⟩)) (H : Hd s w L)
    (k1 : p < st.size → ∀ w', Hd s w' (L.set i (pt b (.stringIter st (p + (Utf8.decode st p).2)))) → K (.tuple #[.bool true, .int .i64 p, .int .i32 (Utf8.decode st p).1]) w')
    (k0 : ¬ p < st.size → K (.tuple #[.bool false]) w) : St P ⟨d, .next x true, ty, ps, af, g⟩ ρ w K := by
  refine ⟨trivial, ?_⟩
  have hb := H.obj i hi
  by_cases hp : p < st.size
  · have : (execOp (ev ρ) ⟨d, .next x true, ty, ps, af, g⟩).run P w = .ok (.value (.tuple #[.bool true, .int .i64 p, .int .i32 (Utf8.decode st p).1])) (w.putObj b (.stringIter st (p + (Utf8.decode st p).2))) := by
      simp only [execOp, Instr.next, hx, Sem.run_bind]
      simp [getObj, setObj, Sem.run, hb, hp, Sem.run_bind, Result.andThen, Sem.run_pure, goInt, World.putObj]
    rw [this]; exact k1 hp _ (H.putObj i hi _)
  · have : (execOp (ev ρ) ⟨d, .next x true, ty, ps, af, g⟩).run P w = .ok (.value (.tuple #[.bool false])) w := by
      simp only [execOp, Instr.next, hx, Sem.run_bind]
      simp [getObj, Sem.run, hb, hp, Sem.run_bind, Result.andThen, Sem.run_pure]
    rw [this]; exact k0 hp
end
/-! signs -/
theorem decode_ascii {st : ByteArray} {p : Nat} (hp : p < st.size) (h : st[p].toNat < 128) : Utf8.decode st p = (st[p].toNat, 1) := by
  have hg : (st.get! p).toNat = st[p].toNat := by
    have : st.get! p = st[p] := by
      show st.data[p]! = st.data[p]
      rw [getElem!_pos st.data p hp]
    rw [this]
  unfold Utf8.decode
  simp [hg, h]
theorem decode_high {st : ByteArray} {p : Nat} (hp : p < st.size) (h : ¬ st[p].toNat < 128) : 128 ≤ (Utf8.decode st p).1 ∧ (Utf8.decode st p).1 ≤ 1114111 := by
  have hg : (st.get! p).toNat = st[p].toNat := by
    have : st.get! p = st[p] := by
      show st.data[p]! = st.data[p]
      rw [getElem!_pos st.data p hp]
    rw [this]
  have hg' : (st.get! (p + 0)).toNat = st[p].toNat := hg
  have m1 := Nat.mod_lt (st.get! (p + 1)).toNat (show 0 < 64 by omega)
  have m2 := Nat.mod_lt (st.get! (p + 2)).toNat (show 0 < 64 by omega)
  have m3 := Nat.mod_lt (st.get! (p + 3)).toNat (show 0 < 64 by omega)
  unfold Utf8.decode
  dsimp only
  have h0 : ¬ (st.get! (p + 0)).toNat < 128 := by rw [hg']; exact h
  have b1 : (st.get! (p + 0)).toNat % 32 < 32 := Nat.mod_lt _ (by omega)
  have b2 : (st.get! (p + 0)).toNat % 16 < 16 := Nat.mod_lt _ (by omega)
  have b3 : (st.get! (p + 0)).toNat % 8 < 8 := Nat.mod_lt _ (by omega)
  rw [if_neg h0]
  split
  · split
    · rename_i hc; exact ⟨hc, by dsimp only; omega⟩
    · exact ⟨by unfold Utf8.runeError; omega, by unfold Utf8.runeError; omega⟩
  · split
    · split
      · rename_i hc
        rw [Bool.and_eq_true] at hc
        have := of_decide_eq_true hc.1
        exact ⟨by dsimp only; omega, by dsimp only; omega⟩
      · exact ⟨by unfold Utf8.runeError; omega, by unfold Utf8.runeError; omega⟩
    · split
      · split
        · rename_i hc
          rw [Bool.and_eq_true] at hc
          have h1 := of_decide_eq_true hc.1
          have h2 := hc.2
          unfold Utf8.valid at h2
          rw [Bool.or_eq_true, Bool.and_eq_true, Bool.and_eq_true] at h2
          refine ⟨by dsimp only; omega, ?_⟩
          rcases h2 with h2 | h2
          · have := of_decide_eq_true h2.2; dsimp only; omega
          · have := of_decide_eq_true h2.2; dsimp only; omega
        · exact ⟨by unfold Utf8.runeError; omega, by unfold Utf8.runeError; omega⟩
      · exact ⟨by unfold Utf8.runeError; omega, by unfold Utf8.runeError; omega⟩
end KE
namespace KE
open Go Go.RowKit
/-- a slice of one-cell values that reads as a list -/
def RdL {α : Type} (w : World) (v : Value) (f : α → Value) (xs : List α) : Prop := RdC w v 1 xs.length (xs.map f)
theorem RdL.le {α : Type} {w : World} {v : Value} {f : α → Value} {xs : List α} (h : RdL w v f xs) : xs.length ≤ 140737488355328 := h.1.2
theorem RdL.shape {α : Type} {w : World} {v : Value} {f : α → Value} {xs : List α} (h : RdL w v f xs) : ∃ a c, v = .slice a xs.length c := RdC.shape h
theorem RdL.ext {α : Type} {w w' : World} {v : Value} {f : α → Value} {xs : List α} (h : RdL w v f xs) (e : Ext w w') : RdL w' v f xs := RdC.ext h e
theorem RdL.el {α : Type} {w : World} {a : Option Addr} {n c i : Nat} {f : α → Value} {xs : List α} {x : α} (h : RdL w (.slice a n c) f xs) (hx : xs[i]? = some x) : ∃ b o, a = some ⟨b, o, none⟩ ∧ w.cell? ⟨b, o + i * 1, none⟩ = some (f x) := by
  obtain ⟨h1, ⟨h2, _⟩ | ⟨b, o, c', h2, h3⟩⟩ := h
  · have := (List.getElem?_eq_some_iff.1 hx).1; omega
  · simp only [Value.slice.injEq] at h2
    obtain ⟨rfl, _, rfl⟩ := h2
    refine ⟨b, o, rfl, ?_⟩
    rw [Nat.mul_one]
    exact h3 i _ (by rw [List.getElem?_map, hx]; rfl)
theorem Old.rdL {α : Type} {w0 w : World} (h : Old w0 w) {v : Value} {f : α → Value} {xs : List α} (hr : RdL w0 v f xs) : RdL w v f xs := h.rdC hr
theorem lt_get {α : Type} {xs : List α} {k : Nat} (h : k < xs.length) : ∃ x, xs[k]? = some x := ⟨_, List.getElem?_eq_getElem h⟩
theorem list_eq {α : Type} {xs ys : List α} (hl : xs.length = ys.length) (h : ∀ j, j < xs.length → xs[j]? = ys[j]?) : xs = ys := by
  apply List.ext_getElem?
  intro j
  by_cases hj : j < xs.length
  · exact h j hj
  · rw [List.getElem?_eq_none (by omega), List.getElem?_eq_none (by omega)]
end KE
