/-
  The engine of this proof, for any program: rules for walks, memory in parts, operations. No condition.
-/
import Derived.Test.YteibnmkikdbndaaGreatDoorE2
import Derived.ProofKit
import Derived.OpenShut
import Derived.SizedLaws
import Derived.Deep.Slices
import Derived.Lib.AppendZerosOnto
import Derived.Lib.Overlaps
import Derived.Maps.RangeRun
set_option linter.unusedVariables false
set_option linter.unusedSimpArgs false
namespace KE
open Go Go.RowKit Go.ChangeShapes Go.WideShapes
/-! ### what the row's reading gives -/
section
variable {H : Type} {enc : TypeId × Value → H} {P : Program} {w : World} {held : Bool}
theorem wAll_mem {e : TypeId} {d : DataW H} : ∀ {l : List (DataW H)}, d ∈ l → ∀ n ∈ d.weights P e, n ∈ DataW.weightsAll P e l
  | x :: l, h, n, hn => by
    simp only [DataW.weightsAll, List.mem_append]
    rcases List.mem_cons.1 h with rfl | h
    · exact .inl hn
    · exact .inr (wAll_mem h n hn)
theorem spot_of {a : Addr} {v : Value} (h : w.cell? a = some v) : a.spot = none := by
  unfold World.cell? at h
  split at h
  · split at h
    · cases h
    · rename_i hs; simpa using hs
  · cases h
theorem rd_of {a : Addr} {n c : Nat} {cs : List Value} (hn : cs.length = n) (hb : n ≤ 140737488355328) (h : ∀ j u, cs[j]? = some u → w.cell? (a.add j) = some u) : RdC w (.slice (some a) n c) 1 n cs := by
  refine ⟨⟨by omega, hb⟩, ?_⟩
  rcases Nat.eq_zero_or_pos n with h0 | h0
  · subst h0; exact .inl ⟨rfl, _, _, rfl⟩
  · right
    have h1 := h 0 _ (List.getElem?_eq_getElem (by omega))
    have h2 : a.spot = none := spot_of (by simpa [Addr.add] using h1)
    obtain ⟨b, o, s⟩ := a
    simp only at h2
    subst h2
    exact ⟨b, o, c, rfl, fun j u hj => by rw [← add_plain]; exact h j u hj⟩
theorem cap_le {t e : TypeId} (ht : P.underlying t = some (.slice e)) (hb : 0 < P.bytesOf e) {elems spare : List (DataW H)} (hw : ∀ n ∈ (DataW.slice elems spare).weights P t, n ≤ reachBytes) : elems.length + spare.length ≤ 140737488355328 := by
  have h1 := hw ((elems.length + spare.length) * P.bytesOf e) (by simp [DataW.weights, ht])
  have h2 := Nat.le_mul_of_pos_right (elems.length + spare.length) hb
  have h3 : reachBytes ≤ 140737488355328 := by decide
  omega
theorem open_texts {t e : TypeId} {fuel : Nat} {v : Value} {x : DataW H × List MemPlace} (ht : P.underlying t = some (.slice e)) (he : P.underlying e = some .string) (hc : P.cellsOf e = 1) (hb : 0 < P.bytesOf e)
    (h : DataW.trod enc P w 0 (fun _ => true) held fuel t [v] = some x) (hw : ∀ n ∈ x.1.weights P t, n ≤ reachBytes) : ∃ ts : List ByteArray, RdL w v Value.string ts := by
  rcases open_strings ht he hc h with ⟨hcs, hx⟩ | ⟨a, len, cap, ss, hcs, _, hl, hm, hlen, hx, hcell, _⟩
  · simp only [List.cons.injEq, and_true] at hcs
    subst hcs
    exact ⟨[], ⟨⟨rfl, by simp⟩, .inl ⟨rfl, _, _, rfl⟩⟩⟩
  · simp only [List.cons.injEq, and_true] at hcs
    subst hcs hx
    simp only [if_true] at hlen
    have hcp := cap_le ht hb hw
    simp only [strs, List.length_map, List.length_take, List.length_drop] at hcp
    have hlt : (ss.take len).length = len := by rw [List.length_take]; omega
    refine ⟨ss.take len, ?_⟩
    unfold RdL
    rw [hlt]
    refine rd_of (by simp; omega) (by omega) fun j u hj => ?_
    rw [List.getElem?_map, List.getElem?_take] at hj
    split at hj
    · rename_i hjl
      obtain ⟨s, hs, rfl⟩ := Option.map_eq_some_iff.1 hj
      have hjs := (List.getElem?_eq_some_iff.1 hs).1
      rw [hcell j hjs, List.getD_eq_getElem?_getD, hs]; rfl
    · cases hj
theorem open_lists {α : Type} {t e : TypeId} {f : Value → α → Prop} {fuel : Nat} {v : Value} {x : DataW H × List MemPlace} (ht : P.underlying t = some (.slice e)) (hc : P.cellsOf e = 1) (hb : 0 < P.bytesOf e) (z : α)
    (hf : ∀ (n : Nat) (u : Value) (y : DataW H × List MemPlace), DataW.trod enc P w 0 (fun _ => true) held n e [u] = some y → (∀ n ∈ y.1.weights P e, n ≤ reachBytes) → ∃ a, f u a)
    (h : DataW.trod enc P w 0 (fun _ => true) held fuel t [v] = some x) (hw : ∀ n ∈ x.1.weights P t, n ≤ reachBytes) : ∃ (vs : List Value) (ll : List α), RdL w v id vs ∧ vs.length = ll.length ∧ ∀ (i : Nat) (u : Value) (a : α), vs[i]? = some u → ll[i]? = some a → f u a := by
  rcases Go.Deep.open_slice1 ht hc h with ⟨hcs, hx⟩ | ⟨a, len, cap, m, n, V, D, Pl, hcs, _, hl, hm, hmm, hx, hel⟩
  · simp only [List.cons.injEq, and_true] at hcs
    subst hcs
    exact ⟨[], [], ⟨⟨rfl, by simp⟩, .inl ⟨rfl, _, _, rfl⟩⟩, rfl, fun i u a hu => by simp at hu⟩
  · simp only [List.cons.injEq, and_true] at hcs
    subst hcs hx
    simp only [if_true] at hmm
    have hcp := cap_le ht hb hw
    simp only [List.length_map, List.length_range] at hcp
    have hex : ∀ i, i < len → ∃ a, f (V i) a := fun i hi => hf n (V i) _ (hel i (by omega)).2 fun k hk => hw k (by
      simp only [DataW.weights, ht, List.mem_cons, List.mem_append]
      exact .inr (.inl (wAll_mem (List.mem_map.2 ⟨i, List.mem_range.2 hi, rfl⟩) k hk)))
    refine ⟨(List.range len).map V, (List.range len).map fun i => if hi : i < len then Classical.choose (hex i hi) else z, ?_, by simp, ?_⟩
    · unfold RdL
      rw [List.map_id, List.length_map, List.length_range]
      refine rd_of (by simp) (by omega) fun j u hj => ?_
      obtain ⟨hj1, hj2⟩ := List.getElem?_eq_some_iff.1 hj
      simp at hj1 hj2
      subst hj2
      exact (hel j (by omega)).1
    · intro i u a hu ha
      obtain ⟨h1, h2⟩ := List.getElem?_eq_some_iff.1 hu
      obtain ⟨h3, h4⟩ := List.getElem?_eq_some_iff.1 ha
      simp at h1 h2 h4
      subst h2 h4
      rw [dif_pos h1]
      exact Classical.choose_spec (hex i h1)
theorem below_all (hl : laidOutB P = true) {W W' : World} (hb : Below W.heap.size W W') : ∀ {ts : List TypeId} {vs : List Value} {ds : List (DataW H)} {ps : List MemPlace}, (∀ t ∈ ts, P.readableRec t = true ∧ t < P.types.size) →
    DataW.TrodAll enc P W 0 (fun _ => true) true ts vs ds ps → (∀ x ∈ ps, x.block < W.heap.size) → DataW.TrodAll enc P W' 0 (fun b => decide (b < W.heap.size)) true ts vs ds ps
  | [], vs, ds, ps, _, h, _ => by
    obtain ⟨rfl, rfl, rfl⟩ := trodAll_nil h
    exact trodAll_mk0
  | t :: ts, vs, ds, ps, ht, h, hlt => by
    obtain ⟨v, vs', d, ds', p, q, rfl, rfl, rfl, h1, h2⟩ := trodAll_cons h
    exact trodAll_cons_mk (Below.trod hl (ht t List.mem_cons_self).1 (ht t List.mem_cons_self).2 h1 hb (fun x hx => hlt x (List.mem_append_left _ hx))) (below_all hl hb (fun t h => ht t (List.mem_cons_of_mem _ h)) h2 (fun x hx => hlt x (List.mem_append_right _ hx)))
/-- a law's row -/
theorem law_post {f : Func} {s : ChangeSpec} {apart fresh handsOn : Bool} {W W' : World} {args : Array Value} {ds : List (DataW H)} {before : List MemPlace} {tb : TypeId} (hl : laidOutB P = true) (htb : P.underlying tb = some .bool) (hres : f.resultTypes = #[tb]) (hv : s.vars = [])
    (hsp : (s.fn H (ds ++ [])).results = [.lit (.bool true)]) (hsa : (s.fn H (ds ++ [])).args = ds) (hsv : (s.fn H (ds ++ [])).vars = [])
    (hok : (f.params.toList.all fun t => P.readableRec t && Nat.blt t P.types.size) = true)
    (hW : DataW.Whole enc P f.params.toList s.vars apart W args.toList ds [] before) (hb : Below W.heap.size W W') : s.post enc P f apart fresh handsOn false W args (.bool true) W' := by
  have hlt := fun (x : MemPlace) (hx : x ∈ before) => hW.lt x hx
  have hW' := hW
  obtain ⟨p, q, hA, hV, hpq, hz, hn⟩ := hW'
  rw [hv] at hV
  obtain ⟨-, rfl⟩ := trodVars_none hV
  rw [List.append_nil] at hpq
  subst hpq
  refine ⟨ds, [], before, [], before, [], hW, ?_, ?_, ?_, hb.frame _, fun h => by cases h⟩
  · rw [hsp, hres]
    exact trodAll_mk1 (shut_bool htb _)
  · rw [hsa]
    exact below_all hl hb (fun t ht => by
      have := List.all_eq_true.1 hok t ht
      simp only [Bool.and_eq_true] at this
      exact ⟨this.1, blt_lt this.2⟩) hA (fun x hx => hlt x hx)
  · rw [hsv, hv]; rfl
end
end KE
namespace KE
open Go Go.RowKit
/-! ### lists of rows -/
theorem flat_len {α β : Type} {f : α → List β} {sz : Nat} (hf : ∀ x, (f x).length = sz) : ∀ (xs : List α), (xs.flatMap f).length = xs.length * sz
  | [] => by simp
  | x :: xs => by rw [List.flatMap_cons, List.length_append, hf, flat_len hf xs, List.length_cons, Nat.succ_mul, Nat.add_comm]
theorem flat_get {α β : Type} {f : α → List β} {sz : Nat} (hf : ∀ x, (f x).length = sz) : ∀ {xs : List α} {i j : Nat} {x : α} {u : β}, xs[i]? = some x → (f x)[j]? = some u → (xs.flatMap f)[i * sz + j]? = some u
  | y :: xs, 0, j, x, u, hx, hu => by
    simp only [List.getElem?_cons_zero, Option.some.injEq] at hx
    subst hx
    rw [List.flatMap_cons, Nat.zero_mul, Nat.zero_add, List.getElem?_append_left (List.getElem?_eq_some_iff.1 hu).1]
    exact hu
  | y :: xs, i + 1, j, x, u, hx, hu => by
    simp only [List.getElem?_cons_succ] at hx
    rw [List.flatMap_cons, List.getElem?_append_right (by rw [hf, Nat.succ_mul]; omega), hf, show (i + 1) * sz + j - sz = i * sz + j from by rw [Nat.succ_mul]; omega]
    exact flat_get hf hx hu
/-- a slice of rows, read -/
def RdS {α : Type} (w : World) (v : Value) (sz : Nat) (f : α → List Value) (xs : List α) : Prop := RdC w v sz xs.length (xs.flatMap f)
theorem RdS.le {α : Type} {w : World} {v : Value} {sz : Nat} {f : α → List Value} {xs : List α} (h : RdS w v sz f xs) : xs.length ≤ 140737488355328 := h.1.2
theorem RdS.shape {α : Type} {w : World} {v : Value} {sz : Nat} {f : α → List Value} {xs : List α} (h : RdS w v sz f xs) : ∃ a c, v = .slice a xs.length c := RdC.shape h
theorem RdS.ext {α : Type} {w w' : World} {v : Value} {sz : Nat} {f : α → List Value} {xs : List α} (h : RdS w v sz f xs) (e : Ext w w') : RdS w' v sz f xs := RdC.ext h e
theorem Old.rdS {α : Type} {w0 w : World} (h : Old w0 w) {v : Value} {sz : Nat} {f : α → List Value} {xs : List α} (hr : RdS w0 v sz f xs) : RdS w v sz f xs := h.rdC hr
theorem RdS.el {α : Type} {w : World} {a : Option Addr} {n c i sz : Nat} {f : α → List Value} (hf : ∀ x, (f x).length = sz) {xs : List α} {x : α} (h : RdS w (.slice a n c) sz f xs) (hx : xs[i]? = some x) :
    ∃ b o, a = some ⟨b, o, none⟩ ∧ ∀ j u, (f x)[j]? = some u → w.cell? ⟨b, o + i * sz + j, none⟩ = some u := by
  obtain ⟨b, o, c', hv, hc⟩ := RdC.at_ h (i := i) (List.getElem?_eq_some_iff.1 hx).1
  cases hv
  exact ⟨b, o, rfl, fun j u hj => hc j u (by rw [← hf x]; exact (List.getElem?_eq_some_iff.1 hj).1) (flat_get hf hx hj)⟩
theorem RdS.at {α : Type} {w : World} {b o n c i sz : Nat} {f : α → List Value} (hf : ∀ x, (f x).length = sz) {xs : List α} {x : α} (h : RdS w (.slice (some ⟨b, o, none⟩) n c) sz f xs) (hx : xs[i]? = some x) :
    ∀ j u, (f x)[j]? = some u → w.cell? ⟨b, o + i * sz + j, none⟩ = some u := by
  obtain ⟨b', o', e, hc⟩ := h.el hf hx
  cases e
  exact hc
section
variable {P : Program} {w : World} {ρ : Nat → Value} {d : Option Tmp} {ty : TypeId} {ps : String} {af : Array Edge} {g : Option (Nat × Bool)} {s : Sy} {L : List Hp} {K : Value → World → Prop}
/-- a struct is loaded out of memory: cells as facts -/
theorem x_loadF {t : TypeId} {x : Operand} {b o : Nat} {vs : List Value} {dd : TypeDesc} {z : Value} {sz by_ : Nat} (ht : P.underlying t = some dd) (hd : aggD dd = true) (hy : Ty P t z sz by_) (hx : ev ρ x = .pointer (some ⟨b, o, none⟩)) (hn : vs.length = sz) (hc : ∀ j u, vs[j]? = some u → w.cell? ⟨b, o + j, none⟩ = some u) :
    (execOp (ev ρ) ⟨d, .load t x, ty, ps, af, g⟩).run P w = .ok (.value (.agg vs.toArray)) w := x_loadA ht hd hy hx hn (fun j u hj => by rw [add_plain]; exact hc j u hj)
/-- the cells of a block of one's own -/
theorem Hd.cellsL (H : Hd s w L) {b off : Nat} {cs : List Value} {t : TypeId} {f : Nat × Nat} {vs : List Value} (i : Nat) (hi : L[i]? = some (pt b (.cells cs.toArray t f))) (hv : (cs.drop off).take vs.length = vs) : ∀ j u, vs[j]? = some u → w.cell? ⟨b, off + j, none⟩ = some u := by
  intro j u hj
  refine H.cellL i hi ?_
  have h1 : ((cs.drop off).take vs.length)[j]? = some u := by rw [hv]; exact hj
  rw [List.getElem?_take] at h1
  split at h1
  · simpa using h1
  · cases h1
/-- a struct is stored in a block of one's own -/
theorem s_stA {t : TypeId} {a x : Operand} {b off : Nat} {cs : Array Value} {t0 : TypeId} {z : Value} {vs : List Value} {sz by_ : Nat} (i : Nat) (hi : L[i]? = some (pt b (.cells cs t0 (0, 0)))) (hy : Ty P t z sz by_) (ha : ev ρ a = .pointer (some ⟨b, off, none⟩)) (hx : ev ρ x = .agg vs.toArray) (hn : vs.length = sz) (h1 : (vs.all fun v => oneC v) = true) (hoff : Nat.ble (off + sz) cs.toList.length = true)
    (H : Hd s w L) (k : ∀ w', Hd s w' (L.set i (pt b (.cells (cs.toList.take off ++ vs ++ cs.toList.drop (off + vs.length)).toArray t0))) → K undef w') : St P ⟨d, .store t a x, ty, ps, af, g⟩ ρ w K :=
  s_storeA i hi hy ha hx hn (fun v hv => List.all_eq_true.1 h1 v hv) (by have := Nat.le_of_ble_eq_true hoff; simpa using this) H k
/-- part of a row -/
theorem sub_row {b o : Nat} {vs vs' : List Value} (k : Nat) (hc : ∀ (j : Nat) (u : Value), vs[j]? = some u → w.cell? ⟨b, o + j, none⟩ = some u) (hv : (vs.drop k).take vs'.length = vs') : ∀ (j : Nat) (u : Value), vs'[j]? = some u → w.cell? ⟨b, o + k + j, none⟩ = some u := by
  intro j u hj
  have h1 : ((vs.drop k).take vs'.length)[j]? = some u := by rw [hv]; exact hj
  rw [List.getElem?_take] at h1
  split at h1
  · rw [List.getElem?_drop] at h1
    have := hc _ _ h1
    rwa [← Nat.add_assoc] at this
  · cases h1
/-! texts in order -/
def sLt (a b : ByteArray) : Prop := Op.bytesLess a.toList b.toList = true
instance (a b : ByteArray) : Decidable (sLt a b) := inferInstanceAs (Decidable (_ = true))
theorem sLt_dec (a b : ByteArray) : Op.bytesLess a.toList b.toList = decide (sLt a b) := by
  cases h : Op.bytesLess a.toList b.toList with
  | true => exact (decide_eq_true h).symm
  | false => exact (decide_eq_false (fun e => by rw [sLt, h] at e; cases e)).symm
theorem x_lssS {t t2 : TypeId} {x y : Operand} {a b : ByteArray} (hx : ev ρ x = .string a) (hy : ev ρ y = .string b) :
    (execOp (ev ρ) ⟨d, .binOp .lss t x y t2, ty, ps, af, g⟩).run P w = .ok (.value (.bool (decide (sLt a b)))) w := x_binS hx hy (by simp only [Op.stringOp, Sem.run_pure, sLt_dec])
theorem x_leqS {t t2 : TypeId} {x y : Operand} {a b : ByteArray} (hx : ev ρ x = .string a) (hy : ev ρ y = .string b) :
    (execOp (ev ρ) ⟨d, .binOp .leq t x y t2, ty, ps, af, g⟩).run P w = .ok (.value (.bool (decide (sLt a b ∨ a = b)))) w := x_binS hx hy (by simp only [Op.stringOp, Sem.run_pure, sLt_dec, str_eq, Bool.decide_or])
theorem x_gtrS {t t2 : TypeId} {x y : Operand} {a b : ByteArray} (hx : ev ρ x = .string a) (hy : ev ρ y = .string b) :
    (execOp (ev ρ) ⟨d, .binOp .gtr t x y t2, ty, ps, af, g⟩).run P w = .ok (.value (.bool (decide (¬ (sLt a b ∨ a = b))))) w := x_binS hx hy (by simp only [Op.stringOp, Sem.run_pure, sLt_dec, str_eq]; by_cases h1 : sLt a b <;> by_cases h2 : a = b <;> simp [h1, h2])
theorem x_geqS {t t2 : TypeId} {x y : Operand} {a b : ByteArray} (hx : ev ρ x = .string a) (hy : ev ρ y = .string b) :
    (execOp (ev ρ) ⟨d, .binOp .geq t x y t2, ty, ps, af, g⟩).run P w = .ok (.value (.bool (decide (¬ sLt a b)))) w := x_binS hx hy (by simp only [Op.stringOp, Sem.run_pure, sLt_dec]; by_cases h1 : sLt a b <;> simp [h1])
/-- structs compared -/
theorem x_eqlA {t t2 : TypeId} {x y : Operand} {p : Prop} [Decidable p] {xs ys : List Value} (hg : P.eqGuardType P.depth t = false) (hx : ev ρ x = .agg xs.toArray) (hy : ev ρ y = .agg ys.toArray) (hv : (Op.equal t (.agg xs.toArray) (.agg ys.toArray)).run P w = .ok (decide p) w) : (execOp (ev ρ) ⟨d, .binOp .eql t x y t2, ty, ps, af, g⟩).run P w = .ok (.value (.bool (decide p))) w := by
  refine x_cmp hx hy (by simp [eqGuard, Sem.run_pure, Sem.run_bind, run_program, Result.andThen, hg]) ?_
  simp [binOp, Sem.run_bind, hv, Result.andThen, Sem.run_pure]
theorem x_neqA {t t2 : TypeId} {x y : Operand} {p : Prop} [Decidable p] {xs ys : List Value} (hg : P.eqGuardType P.depth t = false) (hx : ev ρ x = .agg xs.toArray) (hy : ev ρ y = .agg ys.toArray) (hv : (Op.equal t (.agg xs.toArray) (.agg ys.toArray)).run P w = .ok (decide p) w) : (execOp (ev ρ) ⟨d, .binOp .neq t x y t2, ty, ps, af, g⟩).run P w = .ok (.value (.bool (decide (¬ p)))) w := by
  refine x_cmp hx hy (by simp [eqGuard, Sem.run_pure, Sem.run_bind, run_program, Result.andThen, hg]) ?_
  simp [binOp, Sem.run_bind, hv, Result.andThen, Sem.run_pure]
end
section
variable {P : Program} {w : World} {ρ : Nat → Value} {fn : Func} {R : Value → World → Prop}
theorem RetM.cell1A {a : Tmp} {ta : TypeId} {b o : Nat} {da : TypeDesc} {z : Value} {sz by_ : Nat} {vs : List Value} (h : fn.results = #[.cell a ta]) (ha : ρ a = .pointer (some ⟨b, o, none⟩)) (ua : P.underlying ta = some da) (ga : aggD da = true) (hy : Ty P ta z sz by_) (hn : vs.length = sz)
    (ca : ∀ j u, vs[j]? = some u → w.cell? ⟨b, o + j, none⟩ = some u) (hR : R (.agg vs.toArray) w) : RetM P fn R ρ [] w := fun tmps ht => by
  refine ⟨_, ?_, hR⟩
  have h1 := ht a
  rw [ha] at h1
  have e1 := run_loadVarA (P := P) ua ga hy hn (p := ⟨b, o, none⟩) (fun j u hj => by rw [add_plain]; exact ca j u hj)
  simp only [Array.getD_eq_getD_getElem?] at h1
  simp [results, h, Sem.run_bind, h1, asAddr, Result.andThen, Sem.run_pure, e1]
end
section
variable {P : Program} {w : World}
/-- the fields of two structs compared, one behind the other -/
inductive EqF (P : Program) (w : World) (n : Nat) (xs ys : Array Value) : List Field → Bool → Prop
  | nil : EqF P w n xs ys [] true
  | no {f : Field} {fs : List Field} {x y : Value} (hn : f.name ≠ "_") (hx : (part f.type xs f.offset).run P w = .ok x w) (hy : (part f.type ys f.offset).run P w = .ok y w) (he : (Op.equalIn n f.type x y).run P w = .ok false w) : EqF P w n xs ys (f :: fs) false
  | yes {f : Field} {fs : List Field} {x y : Value} {b : Bool} (hn : f.name ≠ "_") (hx : (part f.type xs f.offset).run P w = .ok x w) (hy : (part f.type ys f.offset).run P w = .ok y w) (he : (Op.equalIn n f.type x y).run P w = .ok true w) (r : EqF P w n xs ys fs b) : EqF P w n xs ys (f :: fs) b
theorem EqF.run {n : Nat} {t : TypeId} {fs : List Field} {xs ys : Array Value} {b : Bool} (ht : P.underlying t = some (.struct fs.toArray)) (hs : P.stoodInHeld t = false) (h : EqF P w n xs ys fs b) : (Op.equalIn (n + 1) t (.agg xs) (.agg ys)).run P w = .ok b w := by
  simp only [Op.equalIn, Sem.run_bind, run_under ht, run_program, Result.andThen, hs, Bool.false_eq_true, if_false]
  rw [← Array.forIn_toList]
  simp only
  clear ht
  induction h with
  | nil => simp [Sem.run_pure, Result.andThen]
  | no hn hx hy he =>
    simp [List.forIn_cons, Sem.run_bind, hn, hx, hy, he, Result.andThen, Sem.run_pure]
  | yes hn hx hy he r ih =>
    simp [List.forIn_cons, Sem.run_bind, hn, hx, hy, he, Result.andThen, Sem.run_pure] at ih ⊢
    exact ih
theorem part1 {t : TypeId} {d : TypeDesc} {cs : Array Value} {off : Nat} {v : Value} (ht : P.underlying t = some d) (hd : aggD d = false) (hv : cs[off]? = some v) : (part t cs off).run P w = .ok v w := by
  simp [part, Sem.run_bind, run_isAgg ht, hd, Result.andThen, hv, Sem.run_pure]
theorem partA {t : TypeId} {d : TypeDesc} {z : Value} {sz by_ : Nat} {cs : Array Value} {off : Nat} (ht : P.underlying t = some d) (hd : aggD d = true) (hy : Ty P t z sz by_) : (part t cs off).run P w = .ok (.agg (cs.extract off (off + sz))) w := by
  simp [part, Sem.run_bind, run_isAgg ht, hd, Result.andThen, hy.size, Sem.run_pure]
theorem eqIn_str {n : Nat} {t : TypeId} {a b : ByteArray} (ht : P.underlying t = some .string) : (Op.equalIn (n + 1) t (.string a) (.string b)).run P w = .ok (decide (a = b)) w := by
  simp [Op.equalIn, Sem.run_bind, run_under ht, Result.andThen, Sem.run_pure, ba_beq]
theorem eqIn_int {n : Nat} {t : TypeId} {k : IntKind} {a b : Int} (ht : P.underlying t = some (.int k)) : (Op.equalIn (n + 1) t (.int k a) (.int k b)).run P w = .ok (decide (a = b)) w := by
  simp [Op.equalIn, Sem.run_bind, run_under ht, Result.andThen, Sem.run_pure]
  by_cases h : a = b <;> simp [h]
theorem EqF.one {n : Nat} {xs ys : Array Value} {f : Field} {fs : List Field} {x y : Value} {p : Prop} [Decidable p] {b : Bool} (hn : f.name ≠ "_") (hx : (part f.type xs f.offset).run P w = .ok x w) (hy : (part f.type ys f.offset).run P w = .ok y w) (he : (Op.equalIn n f.type x y).run P w = .ok (decide p) w) (r : EqF P w n xs ys fs b) :
    EqF P w n xs ys (f :: fs) (decide p && b) := by
  by_cases h : p
  · rw [decide_eq_true h] at he ⊢; rw [Bool.true_and]; exact .yes hn hx hy he r
  · rw [decide_eq_false h] at he ⊢; exact .no hn hx hy he
end
end KE
namespace KE
open Go Go.RowKit
section
variable {P : Program} {w : World} {ρ : Nat → Value} {d : Option Tmp} {ty : TypeId} {ps : String} {af : Array Edge} {g : Option (Nat × Bool)} {s : Sy} {L : List Hp} {K : Value → World → Prop}
theorem eql_sl_nil {t e : TypeId} {a : Option Addr} {n c : Nat} (ht : P.underlying t = some (.slice e)) : (Op.equal t (.slice a n c) (.slice none 0 0)).run P w = .ok a.isNone w := by
  have : ∀ m, (Op.equalIn (m + 1) t (.slice a n c) (.slice none 0 0)).run P w = .ok a.isNone w := fun m => by
    cases a <;> simp [Op.equalIn, Sem.run_bind, run_under ht, Result.andThen, Sem.run_pure]
  exact this 9999
theorem x_eqlSN {t t2 e : TypeId} {x : Operand} {a : Option Addr} {n c : Nat} (ht : P.underlying t = some (.slice e)) (hx : ev ρ x = .slice a n c) : (execOp (ev ρ) ⟨d, .binOp .eql t x (.const (.slice none 0 0)) t2, ty, ps, af, g⟩).run P w = .ok (.value (.bool (decide (a = none)))) w := by
  refine x_cmp (b := .slice none 0 0) hx rfl (by simp [eqGuard, Sem.run_pure]) ?_
  simp [binOp, Sem.run_bind, eql_sl_nil (P := P) (w := w) ht, Result.andThen, Sem.run_pure]
  cases a <;> rfl
/-- a row is stored in a slice of one's own -/
theorem s_storeRow {t e : TypeId} {a x : Operand} {v : Value} {n sz : Nat} {cs : List Value} {z : Value} {vs : List Value} {by_ b o c k : Nat} (i : Nat) (hi : L[i]? = some (Sl v e sz n cs)) (hv : v = .slice (some ⟨b, o, none⟩) n c) (hk : k < n) (hy : Ty P t z sz by_) (ha : ev ρ a = .pointer (some ⟨b, o + k * sz, none⟩)) (hx : ev ρ x = .agg vs.toArray) (hn : vs.length = sz) (h1 : ∀ v ∈ vs, oneC v = true)
    (H : Hd s w L) (kk : ∀ w', Hd s w' (L.set i (Sl v e sz n (cs.take (k * sz) ++ vs ++ cs.drop (k * sz + sz)))) → K undef w') : St P ⟨d, .store t a x, ty, ps, af, g⟩ ρ w K := by
  subst hv
  obtain ⟨⟨hl, hnb⟩, H1⟩ := Hd.unand (H.pick i hi)
  obtain ⟨q, ⟨hq1, _⟩, H2⟩ := Hd.opn (φ := fun q => SlB (.slice (some ⟨b, o, none⟩) n c) e sz n cs q ∧ True) (q := fun q => pt q.1 (.cells q.2.2.2 e (0, 0))) H1 (by
    rintro x (⟨h1, _⟩ | ⟨q, h1, h2⟩)
    · cases h1
    · exact ⟨q, ⟨h1, trivial⟩, h2⟩)
  obtain ⟨b', o', c', all⟩ := q
  obtain ⟨e1, e2, e3, e4⟩ := hq1
  simp only [Value.slice.injEq, Option.some.injEq, Addr.mk.injEq] at e1
  obtain ⟨⟨rfl, rfl, _⟩, _, rfl⟩ := e1
  simp only at e2 e3 e4 H2
  have hkc : k * sz + sz ≤ c * sz := by rw [← Nat.succ_mul]; exact Nat.mul_le_mul_right _ (by omega)
  have hkn : k * sz + sz ≤ n * sz := by rw [← Nat.succ_mul]; exact Nat.mul_le_mul_right _ (by omega)
  have hlt : o + k * sz + sz ≤ all.size := by omega
  refine s_storeA (cs := all) 0 rfl hy ha hx hn h1 hlt H2 (fun w' H3 => kk w' ?_)
  have hc : (cs.take (k * sz)).length = k * sz := by rw [List.length_take, hl]; omega
  refine Hd.back hi (Hd.weak H3 fun h hp => ⟨⟨by rw [List.length_append, List.length_append, hc, hn, List.length_drop, hl]; omega, hnb⟩, .inr ⟨(b, o, c, (all.toList.take (o + k * sz) ++ vs ++ all.toList.drop (o + k * sz + vs.length)).toArray), ⟨rfl, e2, by simp [hn]; omega, ?_⟩, hp⟩⟩)
  intro j uu hj
  show (all.toList.take (o + k * sz) ++ vs ++ all.toList.drop (o + k * sz + vs.length)).toArray[o + j]? = some uu
  rw [List.getElem?_toArray]
  have ha : (all.toList.take (o + k * sz)).length = o + k * sz := by simp; omega
  rcases Nat.lt_or_ge j (k * sz) with h | h
  · rw [List.append_assoc, List.getElem?_append_left (by omega), List.getElem?_take, if_pos h] at hj
    rw [List.append_assoc, List.getElem?_append_left (by omega), List.getElem?_take, if_pos (by omega)]
    simpa using e4 j uu hj
  · rcases Nat.lt_or_ge j (k * sz + sz) with h' | h'
    · rw [List.getElem?_append_left (by rw [List.length_append]; omega), List.getElem?_append_right (by omega), hc] at hj
      rw [List.getElem?_append_left (by rw [List.length_append]; omega), List.getElem?_append_right (by omega), ha, show o + j - (o + k * sz) = j - k * sz from by omega]
      exact hj
    · rw [List.getElem?_append_right (by rw [List.length_append]; omega), List.length_append, hc, hn, List.getElem?_drop, show k * sz + sz + (j - (k * sz + sz)) = j from by omega] at hj
      rw [List.getElem?_append_right (by rw [List.length_append]; omega), List.length_append, ha, hn, List.getElem?_drop, show o + k * sz + sz + (o + j - (o + k * sz + sz)) = o + j from by omega]
      simpa using e4 j uu hj
end
end KE
namespace KE
open Go Go.RowKit
section
variable {P : Program} {w : World} {ρ : Nat → Value} {d : Option Tmp} {ty : TypeId} {ps : String} {af : Array Edge} {g : Option (Nat × Bool)} {s : Sy} {L : List Hp} {K : Value → World → Prop}
theorem s_nextV {x : Operand} {st : ByteArray} {b p : Nat} (i : Nat) (hi : L[i]? = some (pt b (.stringIter st p))) (hx : ev ρ x = .pointer (some ⟨b, 0, none⟩)) (H : Hd s w L)
    (k1 : ∀ (hp : p < st.size) (_ : st[p].toNat < 128) w', Hd s w' (L.set i (pt b (.stringIter st (p + 1)))) → K (.tuple #[.bool true, .int .i64 p, .int .i32 (st[p].toNat : Nat)]) w')
    (k2 : ∀ (hp : p < st.size) (_ : ¬ st[p].toNat < 128) (c q : Nat) (_ : 128 ≤ c) w', Hd s w' (L.set i (pt b (.stringIter st q))) → K (.tuple #[.bool true, .int .i64 p, .int .i32 (c : Nat)]) w')
    (k0 : ¬ p < st.size → K (.tuple #[.bool false]) w) : St P ⟨d, .next x true, ty, ps, af, g⟩ ρ w K :=
  s_nextS i hi hx H (fun hp w' H' => by
    by_cases h : st[p].toNat < 128
    · have hd := decode_ascii hp h
      rw [hd] at H' ⊢
      exact k1 hp h w' H'
    · exact k2 hp h _ _ (decode_high hp h).1 w' H') k0
end
end KE
namespace KE
open Go Go.RowKit
section
variable {P : Program} {w : World} {ρ : Nat → Value} {d : Option Tmp} {ty : TypeId} {ps : String} {af : Array Edge} {g : Option (Nat × Bool)}
theorem x_indexSN {t : TypeId} {x ix : Operand} {st : ByteArray} {k : IntKind} {i : Nat} (ht : P.underlying t = some .string) (hx : ev ρ x = .string st) (hi : ev ρ ix = .int k (i : Int)) (h1 : i < st.size) :
    (execOp (ev ρ) ⟨d, .index t x ix, ty, ps, af, g⟩).run P w = .ok (.value (.int .u8 ((st[i].toNat : Nat) : Int))) w := x_indexS ht hx hi (by omega) h1
end
/-! ### memory that stays as it is: a growing part that anyone may read -/
abbrev Sub := Nat → Option Obj
/-- all of g, as it is -/
def fz (g : Sub) : Hp := fun h => ∀ i o, g i = some o → h i = some o
def sle (g g' : Sub) : Prop := ∀ i o, g i = some o → g' i = some o
theorem sle.refl (g : Sub) : sle g g := fun _ _ h => h
theorem sle.trans {a b c : Sub} (h : sle a b) (k : sle b c) : sle a c := fun i o x => k i o (h i o x)
/-- what g alone tells of every world that holds it -/
def Fx (g : Sub) (Φ : World → Prop) : Prop := ∀ w, hsub g w → Φ w
theorem Fx.mono {g g' : Sub} {Φ : World → Prop} (h : Fx g Φ) (k : sle g g') : Fx g' Φ := fun w hw => h w fun i o x => hw i o (k i o x)
theorem Fx.imp {g : Sub} {Φ Ψ : World → Prop} (h : Fx g Φ) (k : ∀ w, Φ w → Ψ w) : Fx g Ψ := fun w hw => k w (h w hw)
def ofW (w : World) : Sub := fun i => w.heap[i]?
section
variable {w : World} {s : Sy} {L : List Hp} {A : Hp} {g : Sub} {Φ : World → Prop}
theorem Hd.fz (H : Hd s w L) (i : Nat) (hi : L[i]? = some (KE.fz g)) : hsub g w := by
  obtain ⟨h, h1, h2⟩ := H.fact_at i hi
  exact fun k o hk => h1 _ _ (h2 k o hk)
theorem Fx.at (hf : Fx g Φ) (H : Hd s w L) (i : Nat) (hi : L[i]? = some (fz g)) : Φ w := hf w (H.fz i hi)
theorem Fx.in (hf : Fx g Φ) (H : Hd s w L) (hm : fz g ∈ L) : Φ w := by
  obtain ⟨i, hi⟩ := List.getElem?_of_mem hm
  exact hf.at H i hi
theorem Hd.startZ (w : World) : Hd (sy w) w [KE.fz (ofW w)] := Hd.start w
theorem Hd.belowZ {w0 : World} (H : Hd (sy w0) w L) (i : Nat) (hi : L[i]? = some (KE.fz g)) (hg : sle (ofW w0) g) : Ext w0 w := by
  have H1 := (H.pick i hi).weak (q := fr w0) fun h hh k o hk => hh k o (hg k o hk)
  exact H1.below 0 rfl
/-- what is one's own becomes memory that stays -/
theorem Hd.freeze (H : Hd s w (A :: KE.fz g :: L)) (hA : ∀ (w : World) (h : Sub), hsub h w → A h → Φ w) : ∃ g', sle g g' ∧ Fx g' Φ ∧ Hd s w (KE.fz g' :: L) := by
  obtain ⟨h0, h, hs, a, b, hd, he, ha, c, d, hd2, he2, hc, hL⟩ := H
  subst he he2
  obtain ⟨k1, k2⟩ := hdis_hor_l hd
  refine ⟨hor c a, ?_, ?_, h0, hor a (hor c d), hs, hor c a, d, ?_, ?_, fun _ _ h => h, hL⟩
  · intro i o hi
    have := hc i o hi
    simp [hor, this]
  · intro w' hw'
    refine hA w' a (fun i o hi => hw' i o ?_) ha
    rcases k1 i with h1 | h1
    · rw [h1] at hi; cases hi
    · simp [hor, h1, hi]
  · intro i
    rcases hd2 i with h1 | h1
    · rcases k2 i with h2 | h2
      · left; simp [hor, h1, h2]
      · right; exact h2
    · right; exact h1
  · rw [← hor_assoc, hor_comm k1]
theorem Hd.freezeSl {v : Value} {e : TypeId} {sz n : Nat} {cs : List Value} (H : Hd s w (Sl v e sz n cs :: KE.fz g :: L)) : ∃ g', sle g g' ∧ Fx g' (fun w => RdC w v sz n cs) ∧ Hd s w (KE.fz g' :: L) :=
  H.freeze fun w h hs ha => Sl.rd hs ha
end
end KE
namespace KE
open Go Go.RowKit
section
variable {P : Program} {w : World} {ρ : Nat → Value} {fn : Func} {R : Value → World → Prop}
theorem RetM.cellAT {a t : Tmp} {ta : TypeId} {b o : Nat} {da : TypeDesc} {z v : Value} {sz by_ : Nat} {vs : List Value} (h : fn.results = #[.cell a ta, .tmp t]) (ha : ρ a = .pointer (some ⟨b, o, none⟩)) (ht : ρ t = v) (ua : P.underlying ta = some da) (ga : aggD da = true) (hy : Ty P ta z sz by_) (hn : vs.length = sz)
    (ca : ∀ j u, vs[j]? = some u → w.cell? ⟨b, o + j, none⟩ = some u) (hR : R (.tuple #[.agg vs.toArray, v]) w) : RetM P fn R ρ [] w := fun tmps hh => by
  refine ⟨_, ?_, hR⟩
  have h1 := hh a
  have h2 := hh t
  rw [ha] at h1
  rw [ht] at h2
  have e1 := run_loadVarA (P := P) ua ga hy hn (p := ⟨b, o, none⟩) (fun j u hj => by rw [add_plain]; exact ca j u hj)
  simp only [Array.getD_eq_getD_getElem?] at h1 h2
  simp [results, h, Sem.run_bind, h1, h2, asAddr, Result.andThen, Sem.run_pure, e1]
end
theorem flat_set {α β : Type} {f : α → List β} {sz : Nat} (hf : ∀ x, (f x).length = sz) : ∀ {xs : List α} {k : Nat} (y : α), k < xs.length → (xs.flatMap f).take (k * sz) ++ f y ++ (xs.flatMap f).drop (k * sz + sz) = (xs.set k y).flatMap f
  | x :: xs, 0, y, _ => by
    simp only [Nat.zero_mul, List.take_zero, List.nil_append, Nat.zero_add, List.set_cons_zero, List.flatMap_cons]
    rw [List.drop_append_of_le_length (by rw [hf]; exact Nat.le_refl _), ← hf x, List.drop_length, List.nil_append]
  | x :: xs, k + 1, y, h => by
    have ih := flat_set hf (xs := xs) (k := k) y (by simpa using h)
    simp only [List.flatMap_cons, List.set_cons_succ]
    rw [← ih]
    have e1 : (k + 1) * sz = (f x).length + k * sz := by rw [hf, Nat.succ_mul]; omega
    have e2 : (k + 1) * sz + sz = (f x).length + (k * sz + sz) := by rw [e1]; omega
    rw [e2, e1, List.take_length_add_append, List.drop_length_add_append]
    simp [List.append_assoc]
section
variable {P : Program} {w : World} {ρ : Nat → Value} {d : Option Tmp} {ty : TypeId} {ps : String} {af : Array Edge} {g : Option (Nat × Bool)} {s : Sy} {L : List Hp} {K : Value → World → Prop}
/-- an element of a slice of rows of one's own is written -/
theorem s_storeRowF {α : Type} {t e : TypeId} {a x : Operand} {v : Value} {n sz : Nat} {f : α → List Value} {xs : List α} {y : α} {z : Value} {by_ b o c k : Nat} (i : Nat) (hf : ∀ x, (f x).length = sz) (hi : L[i]? = some (Sl v e sz n (xs.flatMap f))) (hv : v = .slice (some ⟨b, o, none⟩) n c) (hk : k < n) (hl : n = xs.length) (hy : Ty P t z sz by_) (ha : ev ρ a = .pointer (some ⟨b, o + k * sz, none⟩)) (hx : ev ρ x = .agg (f y).toArray) (h1 : ((f y).all fun v => oneC v) = true)
    (H : Hd s w L) (kk : ∀ w', Hd s w' (L.set i (Sl v e sz n ((xs.set k y).flatMap f))) → K undef w') : St P ⟨d, .store t a x, ty, ps, af, g⟩ ρ w K :=
  s_storeRow i hi hv hk hy ha hx (hf y) (fun u hu => List.all_eq_true.1 h1 u hu) H (fun w' H' => kk w' (by rw [flat_set hf y (by omega)] at H'; exact H'))
end
section
variable {P : Program} {w : World} {ρ : Nat → Value} {d : Option Tmp} {ty : TypeId} {ps : String} {af : Array Edge} {g : Option (Nat × Bool)} {s : Sy} {L : List Hp} {K : Value → World → Prop}
/-! arrays -/
theorem x_buildAr {t e : TypeId} {n : Nat} {parts : List (Nat × Operand)} {z ze : Value} {szt byt by_ : Nat} {cells : List Value} (ht : P.underlying t = some (.array n e)) (hy : Ty P t z szt byt) (he : Ty P e ze 1 by_)
    (hf : fillL (fun i => some (i * 1, 1)) z.cells.toList (parts.map fun p => (p.1, ev ρ p.2)) = some cells) :
    (execOp (ev ρ) ⟨d, .build t parts.toArray, ty, ps, af, g⟩).run P w = .ok (.value (.agg cells.toArray)) w := by
  simp only [execOp, Instr.build, Sem.run_bind, hy.zero, run_under ht, Result.andThen, he.size]
  rw [List.map_toArray, ← Array.toArray_toList (xs := z.cells), fill_fillL, hf]
  simp [Sem.run_pure]
theorem x_indexAr {t e : TypeId} {n : Nat} {x ix : Operand} {z v : Value} {by_ : Nat} {de : TypeDesc} {cs : Array Value} {k : IntKind} {i : Nat} (ht : P.underlying t = some (.array n e)) (he : Ty P e z 1 by_) (ue : P.underlying e = some de) (hd : aggD de = false)
    (hx : ev ρ x = .agg cs) (hi : ev ρ ix = .int k (i : Int)) (h1 : i < n) (hc : cs[i]? = some v) :
    (execOp (ev ρ) ⟨d, .index t x ix, ty, ps, af, g⟩).run P w = .ok (.value v) w := by
  have hp := part1 (P := P) (w := w) (t := e) (off := i) ue hd hc
  have h1' : (i : Int) < n := by omega
  simp only [execOp, Sem.run_bind, Instr.index, asIntOf, hx, hi, run_under ht, Result.andThen]
  simp [Sem.run_bind, Sem.run_pure, Result.andThen, run_under ht, he.size, h1', h1, hp]
/-! parts of a slice -/
theorem flat_take {α β : Type} {f : α → List β} {sz : Nat} (hf : ∀ x, (f x).length = sz) : ∀ (xs : List α) (k : Nat), (xs.flatMap f).take (k * sz) = (xs.take k).flatMap f
  | [], k => by simp
  | x :: xs, 0 => by simp
  | x :: xs, k + 1 => by
    rw [List.flatMap_cons, List.take_succ_cons, List.flatMap_cons, List.take_append, hf, List.take_of_length_le (by rw [hf, Nat.succ_mul]; omega), show (k + 1) * sz - sz = k * sz by rw [Nat.succ_mul]; omega, flat_take hf xs k]
theorem flat_drop {α β : Type} {f : α → List β} {sz : Nat} (hf : ∀ x, (f x).length = sz) : ∀ (xs : List α) (k : Nat), (xs.flatMap f).drop (k * sz) = (xs.drop k).flatMap f
  | [], k => by simp
  | x :: xs, 0 => by simp
  | x :: xs, k + 1 => by
    rw [List.flatMap_cons, List.drop_succ_cons, List.drop_append, hf, List.drop_of_length_le (by rw [hf, Nat.succ_mul]; omega), List.nil_append, show (k + 1) * sz - sz = k * sz by rw [Nat.succ_mul]; omega, flat_drop hf xs k]
theorem Hd.shrink {a : Option Addr} {e : TypeId} {sz n c m : Nat} {cs : List Value} (H : Hd s w (Sl (.slice a n c) e sz n cs :: L)) (hm : m ≤ n) : Hd s w (Sl (.slice a m c) e sz m (cs.take (m * sz)) :: L) := by
  refine H.weak fun h hh => ?_
  obtain ⟨⟨hl, hn⟩, ⟨h8, h9⟩ | ⟨⟨g, o, c', all⟩, ⟨h8, h9, h10, h11⟩, h12⟩⟩ := hh
  · cases h8
    obtain rfl : m = 0 := by omega
    exact ⟨⟨by simp, by omega⟩, .inl ⟨rfl, rfl⟩⟩
  · simp only [Value.slice.injEq] at h8
    obtain ⟨h8, -, rfl⟩ := h8
    have hmul := Nat.mul_le_mul_right sz hm
    refine ⟨⟨by rw [List.length_take]; omega, by omega⟩, .inr ⟨⟨g, o, c, all⟩, ⟨by rw [h8], Nat.le_trans hm h9, h10, fun j u hj => ?_⟩, h12⟩⟩
    rw [List.getElem?_take] at hj
    split at hj
    · exact h11 j u hj
    · cases hj
theorem Hd.behead {b o : Nat} {e : TypeId} {sz n c k : Nat} {cs : List Value} (H : Hd s w (Sl (.slice (some ⟨b, o, none⟩) n c) e sz n cs :: L)) (hk : k ≤ n) : Hd s w (Sl (.slice (some (if c = k then ⟨b, o, none⟩ else ⟨b, o + k * sz, none⟩)) (n - k) (c - k)) e sz (n - k) (cs.drop (k * sz)) :: L) := by
  refine H.weak fun h hh => ?_
  obtain ⟨⟨hl, hn⟩, ⟨h8, h9⟩ | ⟨⟨g, o', c', all⟩, ⟨h8, h9, h10, h11⟩, h12⟩⟩ := hh
  · cases h8
  · simp only [Value.slice.injEq, Option.some.injEq, Addr.mk.injEq] at h8
    obtain ⟨⟨rfl, rfl, -⟩, -, rfl⟩ := h8
    have h9 : n ≤ c := h9
    have h10 : o + c * sz ≤ all.size := h10
    have hmul := Nat.mul_le_mul_right sz hk
    have hmul2 := Nat.mul_le_mul_right sz (Nat.le_trans hk h9)
    have e1 : (n - k) * sz = n * sz - k * sz := Nat.sub_mul _ _ _
    have e2 : (c - k) * sz = c * sz - k * sz := Nat.sub_mul _ _ _
    refine ⟨⟨by rw [List.length_drop]; omega, by omega⟩, .inr ?_⟩
    by_cases hc : c = k
    · obtain rfl : n = k := by omega
      rw [if_pos hc]
      refine ⟨⟨b, o, c - n, all⟩, ⟨rfl, by simp, by show o + (c - n) * sz ≤ all.size; omega, fun j u hj => ?_⟩, h12⟩
      rw [List.getElem?_drop] at hj
      have := (List.getElem?_eq_some_iff.1 hj).1
      omega
    · rw [if_neg hc]
      refine ⟨⟨b, o + k * sz, c - k, all⟩, ⟨rfl, by show n - k ≤ c - k; omega, by show o + k * sz + (c - k) * sz ≤ all.size; omega, fun j u hj => ?_⟩, h12⟩
      rw [List.getElem?_drop] at hj
      have := h11 _ u hj
      simp only at this ⊢
      rw [Nat.add_assoc]; exact this
/-- what is gathered in a box that holds a slice -/
def outI {α : Type} (b : Nat) (t e : TypeId) (sz : Nat) (f : α → List Value) (pre : List α) : Hp := fun m => ∃ v : Value, True ∧ star (pt b (.cells #[v] t (0, 0))) (Sl v e sz pre.length (pre.flatMap f)) m
theorem outI.opn {α : Type} {b : Nat} {t e : TypeId} {sz : Nat} {f : α → List Value} {pre : List α} (H : Hd s w (outI b t e sz f pre :: L)) : ∃ v, Hd s w (pt b (.cells #[v] t (0, 0)) :: Sl v e sz pre.length (pre.flatMap f) :: L) := by
  obtain ⟨v, _, H⟩ := Hd.opn (φ := fun _ => True) H (fun h hh => hh)
  exact ⟨v, H.unstar⟩
theorem outI.mk {α : Type} {b : Nat} {t e : TypeId} {sz : Nat} {f : α → List Value} {pre : List α} {v : Value} (H : Hd s w (pt b (.cells #[v] t (0, 0)) :: Sl v e sz pre.length (pre.flatMap f) :: L)) : Hd s w (outI b t e sz f pre :: L) :=
  H.star.weak fun h hh => ⟨v, trivial, hh⟩
end
section
variable {P : Program} {w : World} {ρ : Nat → Value} {d : Option Tmp} {ty : TypeId} {ps : String} {af : Array Edge} {g : Option (Nat × Bool)} {s : Sy} {L : List Hp} {K : Value → World → Prop}
/-- the block of a slice of one's own -/
theorem Hd.blk {b o : Nat} {e : TypeId} {sz n c : Nat} {cs : List Value} (H : Hd s w L) (i : Nat) (hi : L[i]? = some (Sl (.slice (some ⟨b, o, none⟩) n c) e sz n cs)) :
    ∃ all : Array Value, (n ≤ c ∧ o + c * sz ≤ all.size ∧ (∀ j u, cs[j]? = some u → all[o + j]? = some u) ∧ cs.length = n * sz ∧ n ≤ 140737488355328) ∧ Hd s w (pt b (.cells all e (0, 0)) :: L.eraseIdx i) := by
  obtain ⟨⟨hl, hnb⟩, H1⟩ := Hd.unand (H.pick i hi)
  obtain ⟨q, ⟨hq1, _⟩, H2⟩ := Hd.opn (φ := fun q => SlB (.slice (some ⟨b, o, none⟩) n c) e sz n cs q ∧ True) (q := fun q => pt q.1 (.cells q.2.2.2 e (0, 0))) H1 (by
    rintro x (⟨h1, _⟩ | ⟨q, h1, h2⟩)
    · cases h1
    · exact ⟨q, ⟨h1, trivial⟩, h2⟩)
  obtain ⟨b', o', c', all⟩ := q
  obtain ⟨e1, e2, e3, e4⟩ := hq1
  simp only [Value.slice.injEq, Option.some.injEq, Addr.mk.injEq] at e1
  obtain ⟨⟨rfl, rfl, _⟩, _, rfl⟩ := e1
  exact ⟨all, ⟨e2, e3, e4, hl, hnb⟩, H2⟩
theorem slNe {b1 o1 n1 c1 b2 o2 n2 c2 : Nat} {e1 e2 : TypeId} {s1 s2 : Nat} {cs1 cs2 : List Value} (H : Hd s w (Sl (.slice (some ⟨b1, o1, none⟩) n1 c1) e1 s1 n1 cs1 :: Sl (.slice (some ⟨b2, o2, none⟩) n2 c2) e2 s2 n2 cs2 :: L)) : b1 ≠ b2 := by
  obtain ⟨all, _, H1⟩ := H.blk 0 rfl
  obtain ⟨all2, _, H2⟩ := Hd.blk (H1.perm (List.Perm.swap _ _ _)) 0 rfl
  exact fun h => H2.ne (fun _ h => h) (fun _ h => h) h.symm
theorem RdC.sub {b o n c : Nat} {sz : Nat} {cs : List Value} (h : RdC w (.slice (some ⟨b, o, none⟩) n c) sz n cs) (k m c' : Nat) (hk : k + m ≤ n) : RdC w (.slice (some ⟨b, o + k * sz, none⟩) m c') sz m ((cs.drop (k * sz)).take (m * sz)) := by
  obtain ⟨⟨hl, hn⟩, hr⟩ := h
  have hmul := Nat.mul_le_mul_right sz hk
  rw [Nat.add_mul] at hmul
  refine ⟨⟨by rw [List.length_take, List.length_drop]; omega, by omega⟩, .inr ⟨b, o + k * sz, c', rfl, fun j u hj => ?_⟩⟩
  rw [List.getElem?_take] at hj
  split at hj
  · rename_i hjm
    rw [List.getElem?_drop] at hj
    rcases hr with ⟨h0, _⟩ | ⟨b', o', c'', hv, hr⟩
    · have := (List.getElem?_eq_some_iff.1 hj).1
      rw [hl, h0, Nat.zero_mul] at this; omega
    · simp only [Value.slice.injEq, Option.some.injEq, Addr.mk.injEq] at hv
      obtain ⟨⟨rfl, rfl, -⟩, -, rfl⟩ := hv
      rw [Nat.add_assoc]; exact hr _ u hj
  · cases hj
theorem RdC.pre {a : Option Addr} {n c : Nat} {sz : Nat} {cs : List Value} (h : RdC w (.slice a n c) sz n cs) (m c' : Nat) (hm : m ≤ n) : RdC w (.slice a m c') sz m (cs.take (m * sz)) := by
  obtain ⟨⟨hl, hn⟩, hr⟩ := h
  have hmul := Nat.mul_le_mul_right sz hm
  refine ⟨⟨by rw [List.length_take]; omega, by omega⟩, ?_⟩
  rcases hr with ⟨h0, _⟩ | ⟨b', o', c'', hv, hr⟩
  · obtain rfl : m = 0 := by omega
    exact .inl ⟨rfl, a, c', rfl⟩
  · simp only [Value.slice.injEq] at hv
    obtain ⟨rfl, -, rfl⟩ := hv
    refine .inr ⟨b', o', c', rfl, fun j u hj => ?_⟩
    rw [List.getElem?_take] at hj
    split at hj
    · exact hr j u hj
    · cases hj
theorem RdC.from {b o n c : Nat} {sz : Nat} {cs : List Value} (h : RdC w (.slice (some ⟨b, o, none⟩) n c) sz n cs) (k c' : Nat) (hk : k ≤ n) : RdC w (.slice (some ⟨b, o + k * sz, none⟩) (n - k) c') sz (n - k) (cs.drop (k * sz)) := by
  have := h.sub k (n - k) c' (by omega)
  rwa [List.take_of_length_le (by rw [List.length_drop, h.1.1, Nat.sub_mul]; omega)] at this
/-- copy into a slice of one's own -/
theorem s_copy {t e : TypeId} {a x : Operand} {z : Value} {sz by_ : Nat} {ats : Array TypeId} (ht : P.underlying t = some (.slice e)) (hy : Ty P e z sz by_) (hats : ats = #[t, t])
    (i : Nat) {v : Value} {ax : Option Addr} {n m m2 k dn dc b o c cx : Nat} {cs news : List Value} (hi : L[i]? = some (Sl v e sz n cs)) (hv : v = .slice (some ⟨b, o, none⟩) n c) (ha : ev ρ a = .slice (some ⟨b, o + k * sz, none⟩) dn dc) (hxe : ev ρ x = .slice ax m2 cx) (hx : RdC w (.slice ax m cx) sz m news) (h1 : ∀ u ∈ news, oneC u = true) (hm : min m2 dn = m) (hk : k + m ≤ n)
    (H : Hd s w L) (kk : ∀ w', Hd s w' (L.set i (Sl v e sz n (cs.take (k * sz) ++ news ++ cs.drop (k * sz + m * sz)))) → K (.int .i64 m) w') : St P ⟨d, .call { callee := .builtin .copy, args := #[a, x], argTypes := ats }, ty, ps, af, g⟩ ρ w K := by
  subst hats hv
  obtain ⟨inf, hinf, hz, hsize, hbytes⟩ := hy
  obtain ⟨⟨hxl, _⟩, hx⟩ := hx
  obtain ⟨all, ⟨e2, e3, e4, hl, hnb⟩, H2⟩ := H.blk i hi
  have hkc : k * sz + m * sz ≤ c * sz := by rw [← Nat.add_mul]; exact Nat.mul_le_mul_right _ (by omega)
  have hkn : k * sz + m * sz ≤ n * sz := by rw [← Nat.add_mul]; exact Nat.mul_le_mul_right _ (by omega)
  have hheap : w.heap[b]? = some (.cells all e (0, 0)) := H2.obj 0 rfl
  have hst := run_storeCells_at P b (o + k * sz) e news 0 all w hheap (by omega) h1
  simp only [Nat.add_zero, List.append_assoc] at hst
  have hrun : (execOp (ev ρ) ⟨d, .call { callee := .builtin .copy, args := #[a, x], argTypes := #[t, t] }, ty, ps, af, g⟩).run P w = .ok (.value (.int .i64 m)) (w.setRow b (all.toList.take (o + k * sz) ++ news ++ all.toList.drop (o + k * sz + news.length)).toArray) := by
    have hmm : Nat.min m2 dn = m := hm
    rcases hx with ⟨h0, a', c', hv⟩ | ⟨b', o', c', hv, hr⟩
    · subst h0
      have hn0 : news = [] := List.eq_nil_of_length_eq_zero (by simpa using hxl)
      subst hn0
      have hfc : (Builtin.firstCells inf.size 0 (.slice ax m2 cx)).run P w = .ok #[] w := by
        cases ax <;> simp [Builtin.firstCells, loadCells, loadCellsFrom, Sem.run_pure]
      have hst2 : (storeCells ⟨b, o + k * sz, none⟩ [] 0).run P w = .ok () (w.setRow b (all.toList.take (o + k * sz) ++ ([] ++ all.toList.drop (o + k * sz + 0))).toArray) := hst
      simp only [execOp, resolve, invoke, builtin, Builtin.copy_, ha, hxe, run_under ht, Go.sizeOf, typeInfo, Builtin.lenOf, Sem.run_bind, Result.andThen, Sem.run_pure, run_program, goInt, List.map_toArray, List.map_cons, List.map_nil]
      simp [run_under ht, Go.sizeOf, typeInfo, hinf, Builtin.lenOf, hmm, hm, hfc, hst2, Sem.run_bind, Result.andThen, Sem.run_pure, run_program, goInt]
    · simp only [Value.slice.injEq] at hv
      obtain ⟨rfl, -, rfl⟩ := hv
      have hf := run_firstCells_some (P := P) w inf.size m ⟨b', o', none⟩ m2 cx news (by rw [hxl, hsize]) (fun j u hj => by rw [add_plain]; exact hr j u hj)
      simp only [execOp, resolve, invoke, builtin, Builtin.copy_, ha, hxe, run_under ht, Go.sizeOf, typeInfo, Builtin.lenOf, Sem.run_bind, Result.andThen, Sem.run_pure, run_program, goInt, List.map_toArray, List.map_cons, List.map_nil]
      simp [run_under ht, Go.sizeOf, typeInfo, hinf, Builtin.lenOf, hmm, hm, hf, hst, Sem.run_bind, Result.andThen, Sem.run_pure, run_program, goInt]
  refine ⟨trivial, ?_⟩
  rw [hrun]
  refine kk _ ?_
  have H3 := Hd.change (w' := w.setRow b (all.toList.take (o + k * sz) ++ news ++ all.toList.drop (o + k * sz + news.length)).toArray) H2 0 rfl (setRow_heap w b all _ e (0, 0) hheap) (fun k hk => setRow_other w b k _ hk) ⟨rfl, rfl, rfl, rfl⟩
  have hc : (cs.take (k * sz)).length = k * sz := by rw [List.length_take, hl]; omega
  refine Hd.back hi (Hd.weak H3 fun h hp => ⟨⟨by rw [List.length_append, List.length_append, hc, hxl, List.length_drop, hl]; omega, hnb⟩, .inr ⟨(b, o, c, (all.toList.take (o + k * sz) ++ news ++ all.toList.drop (o + k * sz + news.length)).toArray), ⟨rfl, e2, by simp [hxl]; omega, ?_⟩, hp⟩⟩)
  intro j uu hj
  show (all.toList.take (o + k * sz) ++ news ++ all.toList.drop (o + k * sz + news.length)).toArray[o + j]? = some uu
  rw [List.getElem?_toArray]
  have ha : (all.toList.take (o + k * sz)).length = o + k * sz := by simp; omega
  rcases Nat.lt_or_ge j (k * sz) with h | h
  · rw [List.append_assoc, List.getElem?_append_left (by omega), List.getElem?_take, if_pos h] at hj
    rw [List.append_assoc, List.getElem?_append_left (by omega), List.getElem?_take, if_pos (by omega)]
    simpa using e4 j uu hj
  · rcases Nat.lt_or_ge j (k * sz + m * sz) with h' | h'
    · rw [List.getElem?_append_left (by rw [List.length_append]; omega), List.getElem?_append_right (by omega), hc] at hj
      rw [List.getElem?_append_left (by rw [List.length_append]; omega), List.getElem?_append_right (by omega), ha, show o + j - (o + k * sz) = j - k * sz from by omega]
      exact hj
    · rw [List.getElem?_append_right (by rw [List.length_append]; omega), List.length_append, hc, hxl, List.getElem?_drop, show k * sz + m * sz + (j - (k * sz + m * sz)) = j from by omega] at hj
      rw [List.getElem?_append_right (by rw [List.length_append]; omega), List.length_append, ha, hxl, List.getElem?_drop, show o + k * sz + m * sz + (o + j - (o + k * sz + m * sz)) = o + j from by omega]
      simpa using e4 j uu hj
/-- append(s[:n], make([]T, k)...) that has no room -/
theorem s_appendMake {t tn e : TypeId} {a x : Operand} {z : Value} {sz by_ : Nat} {kn kq : IntKind} {ats : Array TypeId} (ht : P.underlying t = some (.slice e)) (htn : P.underlying tn = some (.int kn)) (hy : Ty P e z sz by_) (hzs : z.cells.size = sz) (hsz : 0 < sz) (hby : 0 < by_) (hats : ats = #[t, tn])
    {b o n c k : Nat} {cs : List Value} (ha : ev ρ a = .slice (some ⟨b, o, none⟩) n c) (hr : RdC w (.slice (some ⟨b, o, none⟩) n c) sz n cs) (hx : ev ρ x = .int kq (k : Int)) (h0 : 0 < k) (hg : c < n + k) (hb : (n + k) * by_ ≤ 140737488355328) (H : Hd s w L)
    (kk : ∀ b' c' w' cs', cs'.length = (n + k) * sz → cs'.take (n * sz) = cs → n + k ≤ c' → Hd s w' (Sl (.slice (some ⟨b', 0, none⟩) (n + k) c') e sz (n + k) cs' :: L) → K (.slice (some ⟨b', 0, none⟩) (n + k) c') w') : St P ⟨d, .call { callee := .builtin .append, args := #[a, x], argTypes := ats }, ty, ps, af, g⟩ ρ w K := by
  subst hats
  obtain ⟨inf, hinf, hz, hsize, hbytes⟩ := hy
  have hnm : n + k ≤ 140737488355328 := Nat.le_trans (Nat.le_mul_of_pos_right _ hby) hb
  obtain ⟨⟨hl, _⟩, hr⟩ := hr
  have hold : (Builtin.firstCells inf.size n (.slice (some ⟨b, o, none⟩) n c)).run P w.drew = .ok cs.toArray w.drew := by
    rcases hr with ⟨h0, _⟩ | ⟨b', o', c', hv, hr⟩
    · subst h0
      have : cs = [] := List.eq_nil_of_length_eq_zero (by simpa using hl)
      subst this
      simp [Builtin.firstCells, loadCells, loadCellsFrom, Sem.run_pure]
    · simp only [Value.slice.injEq, Option.some.injEq, Addr.mk.injEq] at hv
      obtain ⟨⟨rfl, rfl, -⟩, -, rfl⟩ := hv
      exact run_firstCells_some (P := P) w.drew inf.size n ⟨b, o, none⟩ n c cs (by rw [hl, hsize]) (fun j u hj => by rw [add_plain]; exact hr j u hj)
  have hkb : k * by_ ≤ (n + k) * by_ := Nat.mul_le_mul_right _ (by omega)
  have hrun := Lib.run_append_grow_zeros (P := P) w t tn ty e inf z kq kn ht htn hinf hz (some ⟨b, o, none⟩) n c cs hold k h0 (by omega) hg (by omega) (by rw [hbytes]; omega) (growslice_fits hg (by rw [hbytes]; exact hb))
  have hge := grownCap_ge w (n + k) c e
  refine ⟨trivial, ?_⟩
  have : (execOp (ev ρ) ⟨d, .call { callee := .builtin .append, args := #[a, x], argTypes := #[t, tn] }, ty, ps, af, g⟩).run P w = .ok (.value (.slice (some ⟨w.heap.size, 0, none⟩) (n + k) (grownCap w (n + k) c e))) (w.drew.alloc (.cells (cs.toArray ++ Builtin.zeroCells z.cells k ++ Builtin.zeroCells z.cells (grownCap w (n + k) c e - (n + k))) e)) := by
    simp [execOp, resolve, invoke, builtin, ha, hx, hrun, Sem.run_bind, Result.andThen, Sem.run_pure]
  rw [this]
  have hlz : (cs ++ (Builtin.zeroCells z.cells k).toList).length = (n + k) * sz := by simp [size_zeroCells, hzs, hl, Nat.add_mul]
  refine kk _ _ _ (cs ++ (Builtin.zeroCells z.cells k).toList) hlz ?_ hge ?_
  · rw [← hl, List.take_left']
    rfl
  · refine Hd.weak ((H.drew).alloc _) fun h hp => ⟨⟨hlz, hnm⟩, .inr ⟨(w.heap.size, 0, _, _), ⟨rfl, hge, ?_, ?_⟩, hp⟩⟩
    · simp only [Array.size_append, List.size_toArray, size_zeroCells, hzs, hl, Nat.zero_add]
      rw [← Nat.add_mul, ← Nat.add_mul]
      have e1 : n + k + (grownCap w (n + k) c e - (n + k)) = grownCap w (n + k) c e := by generalize grownCap w (n + k) c e = G at hge; omega
      rw [e1]; exact Nat.le_refl _
    · intro j u hj
      simp only [Nat.zero_add]
      have hlt : j < (cs ++ (Builtin.zeroCells z.cells k).toList).length := (List.getElem?_eq_some_iff.1 hj).1
      rw [Array.getElem?_append_left (by simpa using hlt)]
      simpa [← Array.getElem?_toList] using hj
theorem x_sliceFromA {t e : TypeId} {x l : Operand} {a : Option Addr} {n c i : Nat} {k : IntKind} {z : Value} {sz by_ : Nat} (ht : P.underlying t = some (.slice e)) (hy : Ty P e z sz by_) (hx : ev ρ x = .slice a n c) (hl : ev ρ l = .int k (i : Int)) (h1 : i ≤ n) (hc : n ≤ c) :
    (execOp (ev ρ) ⟨d, .slice t x (some l) none none, ty, ps, af, g⟩).run P w = .ok (.value (.slice (if c = i then a else a.map (·.add (i * sz))) (n - i) (c - i))) w := by
  have h1' : (i : Int) ≤ n := by omega
  simp only [execOp, Instr.sliceAt, Sem.run_bind, run_under ht, Result.andThen, hx, Option.map_some, Option.map_none, hl]
  simp [Instr.slice, Instr.sliceBounds, Instr.sliceBound, asIntOf, Sem.run_bind, run_under ht, Result.andThen, Sem.run_pure, hy.size, h1', h1]
theorem x_sliceFromLt {t e : TypeId} {x l : Operand} {b o n c i : Nat} {k : IntKind} {z : Value} {sz by_ : Nat} (ht : P.underlying t = some (.slice e)) (hy : Ty P e z sz by_) (hx : ev ρ x = .slice (some ⟨b, o, none⟩) n c) (hl : ev ρ l = .int k (i : Int)) (h1 : i ≤ n) (hc : n ≤ c) (hlt : i < c) :
    (execOp (ev ρ) ⟨d, .slice t x (some l) none none, ty, ps, af, g⟩).run P w = .ok (.value (.slice (some ⟨b, o + i * sz, none⟩) (n - i) (c - i))) w := by
  rw [x_sliceFromA ht hy hx hl h1 hc, if_neg (by omega), Option.map_some, add_plain]
theorem x_addN {t t2 : TypeId} {x y : Operand} {a b : Nat} (hx : ev ρ x = .int .i64 (a : Int)) (hy : ev ρ y = .int .i64 (b : Int)) (h1 : a + b ≤ 9223372036854775807) :
    (execOp (ev ρ) ⟨d, .binOp .add t x y t2, ty, ps, af, g⟩).run P w = .ok (.value (.int .i64 ((a + b : Nat) : Int))) w := by
  rw [x_add hx hy (by omega) (by omega)]; rfl
theorem x_subN {t t2 : TypeId} {x y : Operand} {a b : Nat} (hx : ev ρ x = .int .i64 (a : Int)) (hy : ev ρ y = .int .i64 (b : Int)) (h1 : b ≤ a) (h2 : a ≤ 9223372036854775807) :
    (execOp (ev ρ) ⟨d, .binOp .sub t x y t2, ty, ps, af, g⟩).run P w = .ok (.value (.int .i64 ((a - b : Nat) : Int))) w := by
  rw [x_sub hx hy (by omega) (by omega), Int.ofNat_sub h1]
theorem Hd.grow2 {a : Option Addr} {e : TypeId} {sz n c m : Nat} {cs : List Value} (H : Hd s w (Sl (.slice a n c) e sz n cs :: L)) (h0 : n ≤ m) (h1 : m ≤ c) (h2 : m ≤ 140737488355328) : ∃ cs', cs'.length = m * sz ∧ cs'.take (n * sz) = cs ∧ Hd s w (Sl (.slice a m c) e sz m cs' :: L) := by
  obtain ⟨h, hs, hL⟩ := H
  obtain ⟨h3, p, q, h4, h5, ⟨hl, hh⟩, h7⟩ := hL
  obtain ⟨hl, ⟨h8, h9⟩ | ⟨⟨g, o, c', all⟩, ⟨h8, h9, h10, h11⟩, h12⟩⟩ := (⟨hl, hh⟩ : Sl (.slice a n c) e sz n cs p)
  · cases h8
    have : m = 0 := by omega
    subst this
    have hc0 : cs = [] := List.eq_nil_of_length_eq_zero (by rw [hl.1, h9, Nat.zero_mul])
    exact ⟨[], by simp, by simp [hc0], h, hs, h3, p, q, h4, h5, ⟨⟨by simp, by omega⟩, .inl ⟨rfl, rfl⟩⟩, h7⟩
  · simp only [Value.slice.injEq] at h8
    obtain ⟨h8, -, h13⟩ := h8
    subst h13
    have hms := Nat.mul_le_mul_right sz h1
    have hns := Nat.mul_le_mul_right sz h0
    have h10 : o + c * sz ≤ all.size := h10
    have hlen : ((all.toList.drop o).take (m * sz)).length = m * sz := by
      rw [List.length_take, List.length_drop, Array.length_toList]; omega
    refine ⟨(all.toList.drop o).take (m * sz), hlen, ?_, h, hs, h3, p, q, h4, h5, ⟨⟨hlen, h2⟩, .inr ⟨⟨g, o, c, all⟩, ⟨by rw [h8], h1, h10, ?_⟩, h12⟩⟩, h7⟩
    · refine List.ext_getElem? fun j => ?_
      rw [List.getElem?_take, List.getElem?_take, List.getElem?_drop]
      by_cases hj : j < n * sz
      · rw [if_pos hj, if_pos (by omega)]
        have hjc : j < cs.length := by rw [hl.1]; exact hj
        rw [List.getElem?_eq_getElem hjc]
        have := h11 j _ (List.getElem?_eq_getElem hjc)
        simpa using this
      · rw [if_neg hj, List.getElem?_eq_none (by rw [hl.1]; omega)]
    · intro j u hj
      rw [List.getElem?_take] at hj
      split at hj
      · simpa using hj
      · cases hj
theorem ins_room {A E X : List Value} {N a z : Nat} (hA : A.length = N + z) (hE : A.take N = E) (ha : a ≤ N) :
    (A.take (a + z) ++ (A.drop a).take (N - a) ++ A.drop (a + z + (N - a))).take a ++ X ++ (A.take (a + z) ++ (A.drop a).take (N - a) ++ A.drop (a + z + (N - a))).drop (a + z) = E.take a ++ X ++ E.drop a := by
  have hP : (A.take (a + z)).length = a + z := by rw [List.length_take]; omega
  have e1 : (A.take (a + z) ++ (A.drop a).take (N - a) ++ A.drop (a + z + (N - a))).take a = E.take a := by
    rw [List.append_assoc, List.take_append_of_le_length (by omega), List.take_take, ← hE, List.take_take, Nat.min_eq_left (by omega), Nat.min_eq_left ha]
  have e2 : (A.take (a + z) ++ (A.drop a).take (N - a) ++ A.drop (a + z + (N - a))).drop (a + z) = E.drop a := by
    rw [List.append_assoc, List.drop_left' hP, List.drop_of_length_le (by omega : A.length ≤ a + z + (N - a)), List.append_nil, ← hE, List.drop_take]
  rw [e1, e2]
theorem ins_grow {A E X : List Value} {N a z : Nat} (hA : A.length = N + z) (hE : A.take a = E.take a) (hl : E.length = N) (ha : a ≤ N) (hX : X.length = z) :
    (A.take a ++ X ++ A.drop (a + z)).take (a + z) ++ E.drop a ++ (A.take a ++ X ++ A.drop (a + z)).drop (a + z + (N - a)) = E.take a ++ X ++ E.drop a := by
  have hP : (A.take a ++ X).length = a + z := by rw [List.length_append, List.length_take, hX]; omega
  have hD : (A.take a ++ X ++ A.drop (a + z)).drop (a + z + (N - a)) = [] := List.drop_of_length_le (by rw [List.length_append, hP, List.length_drop]; omega)
  rw [hD, List.take_left' hP, List.append_nil, hE]
/-- a call of a function that the model knows -/
theorem s_callX {f : FuncId} {args : Array Operand} {ats : Array TypeId} {v : Value} (he : (callFunc f (args.map (ev ρ))).run P w = .ok (.value v) w) (k : K v w) : St P ⟨d, .call { callee := .value (.func f), args := args, argTypes := ats }, ty, ps, af, g⟩ ρ w K := by
  refine ⟨trivial, ?_⟩
  have : (execOp (ev ρ) ⟨d, .call { callee := .value (.func f), args := args, argTypes := ats }, ty, ps, af, g⟩).run P w = .ok (.value v) w := by
    simp [execOp, resolve, Deferred.ofValue, ev, invoke, Sem.run_bind, Result.andThen, Sem.run_pure, he]
  rw [this]
  exact k
theorem s_callXL {f : FuncId} {xs : List Operand} {ats : Array TypeId} {v : Value} (he : (callFunc f (xs.map (ev ρ)).toArray).run P w = .ok (.value v) w) (k : K v w) : St P ⟨d, .call { callee := .value (.func f), args := xs.toArray, argTypes := ats }, ty, ps, af, g⟩ ρ w K :=
  s_callX (by rw [List.map_toArray]; exact he) k
theorem x_sliceToN {t e : TypeId} {x h : Operand} {a : Option Addr} {n c i : Nat} {k : IntKind} {z : Value} {sz by_ : Nat} (ht : P.underlying t = some (.slice e)) (hy : Ty P e z sz by_) (hx : ev ρ x = .slice a n c) (hh : ev ρ h = .int k (i : Int)) (h1 : i ≤ c) :
    (execOp (ev ρ) ⟨d, .slice t x none (some h) none, ty, ps, af, g⟩).run P w = .ok (.value (.slice a i c)) w := x_sliceTo ht hy hx hh (by omega) (by omega)
/-- slices.overlaps of two slices of one's own -/
theorem run_ov {f : FuncId} {fn : Func} {tS tR e : TypeId} {z : Value} {sz by_ : Nat} (hf : P.funcs[f]? = some fn) (hname : (fn.name == "runtime.NumGoroutine") = false) (hb : fn.body.isNone = true) (hn : Extern.findNext fn = none) (hE : Extern.find fn = some (Extern.SlicesOverlaps.overlaps #[tS, tS] #[tR])) (ht : P.underlying tS = some (.slice e)) (hy : Ty P e z sz by_) (hsz : 0 < sz)
    {b1 o1 n1 c1 b2 o2 n2 c2 k lb cb : Nat} {cs1 cs2 : List Value} (h2 : 0 < n2) (H : Hd s w (Sl (.slice (some ⟨b1, o1, none⟩) n1 c1) e sz n1 cs1 :: Sl (.slice (some ⟨b2, o2, none⟩) n2 c2) e sz n2 cs2 :: L)) :
    (callFunc f #[.slice (some ⟨b1, o1, none⟩) n1 c1, .slice (some ⟨b2, o2 + k, none⟩) lb cb]).run P w = .ok (.value (.bool false)) w := by
  have hne := slNe H
  obtain ⟨all1, h11, H1⟩ := H.blk 0 rfl
  obtain ⟨all2, h22, H2⟩ := Hd.blk (H1.perm (List.Perm.swap _ _ _)) 0 rfl
  have g2 := H2.obj 0 rfl
  have g1 := H2.obj 1 rfl
  have hs2 : all2.size ≠ 0 := by
    have a1 := h22.2.1
    have a2 : 1 * 1 ≤ c2 * sz := Nat.mul_le_mul (by have := h22.1; omega) hsz
    omega
  rw [run_callFunc_extern hf hname hb hn hE, Lib.run_overlaps_apart w tS tR e ht sz (fun w => hy.size) ⟨b1, o1, none⟩ ⟨b2, o2 + k, none⟩ n1 c1 lb cb hne e e all1.size all2.size (by simp [World.shape?, g1]) (by simp [World.shape?, g2]) hs2 (free_of g1) (free_of g1)]
  rfl
end
section
variable {P : Program} {w : World} {ρ : Nat → Value} {d : Option Tmp} {ty : TypeId} {ps : String} {af : Array Edge} {g : Option (Nat × Bool)} {s : Sy} {L : List Hp} {K : Value → World → Prop} {kt : TypeId} {κ : Type} [DecidableEq κ]
/-- a map that is gone through -/
def MR {P : Program} {kt : TypeId} (T : KT P kt κ) (m b : Nat) (l : List (κ × Value)) (cur : Option (κ × Value)) (rest : List (κ × Value)) : Hp := fun h => ∃ q : Array MapEntry × Nat × Array Nat,
  (MV T.kv q.1 l ∧ Stamps q.1 q.2.1 ∧ (q.1.toList.filter fun e => !q.2.2.contains e.born).map (fun e => (e.key, e.val)) = rest.map (fun p => (T.kv p.1, p.2)) ∧ ∀ p, cur = some p → ∃ (e : MapEntry) (sn : Array Nat), e ∈ q.1.toList ∧ q.2.2 = sn.push e.born ∧ e.key = T.kv p.1 ∧ e.val = p.2) ∧
  star (pt m (.map q.1 q.2.1)) (pt b (.mapIter (some m) q.2.1 q.2.2 q.2.1)) h
theorem MR.opn {T : KT P kt κ} {m b : Nat} {l rest : List (κ × Value)} {cur : Option (κ × Value)} (H : Hd s w L) (i : Nat) (hi : L[i]? = some (MR T m b l cur rest)) : ∃ (es : Array MapEntry) (cl : Nat) (seen : Array Nat),
    (MV T.kv es l ∧ Stamps es cl ∧ (es.toList.filter fun e => !seen.contains e.born).map (fun e => (e.key, e.val)) = rest.map (fun p => (T.kv p.1, p.2)) ∧ ∀ p, cur = some p → ∃ (e : MapEntry) (sn : Array Nat), e ∈ es.toList ∧ seen = sn.push e.born ∧ e.key = T.kv p.1 ∧ e.val = p.2) ∧
    Hd s w (pt m (.map es cl) :: pt b (.mapIter (some m) cl seen cl) :: L.eraseIdx i) := by
  obtain ⟨⟨es, cl, seen⟩, h1, H⟩ := Hd.opn (H.pick i hi) (fun x hx => hx)
  exact ⟨es, cl, seen, h1, H.unstar⟩
theorem MR.map {T : KT P kt κ} {m b : Nat} {l rest : List (κ × Value)} {cur : Option (κ × Value)} (H : Hd s w (MR T m b l cur rest :: L)) : Hd s w (Mp T m l :: L) := by
  obtain ⟨es, cl, seen, ⟨h1, h2, _⟩, H⟩ := MR.opn H 0 rfl
  exact (Hd.weak (H.perm (List.Perm.swap _ _ _)).drop) fun h hp => ⟨(es, cl), ⟨h1, h2⟩, hp⟩
theorem s_rangeM {t et : TypeId} {x : Operand} {m : Nat} {l : List (κ × Value)} (T : KT P kt κ) (ht : P.underlying t = some (.map kt et)) (i : Nat) (hi : L[i]? = some (Mp T m l)) (hx : ev ρ x = .map (some m)) (H : Hd s w L)
    (k : ∀ b w', Hd s w' (MR T m b l none l :: L.eraseIdx i) → K (.pointer (some ⟨b, 0, none⟩)) w') : St P ⟨d, .range t x, ty, ps, af, g⟩ ρ w K := by
  refine ⟨trivial, ?_⟩
  obtain ⟨⟨es, cl⟩, ⟨hv, hs⟩, H1⟩ := Hd.opn (φ := fun q : Array MapEntry × Nat => MV T.kv q.1 l ∧ Stamps q.1 q.2) (q := fun q => pt m (.map q.1 q.2)) (H.pick i hi) (fun x hx => hx)
  have hm := H1.obj 0 rfl
  have : (execOp (ev ρ) ⟨d, .range t x, ty, ps, af, g⟩).run P w = .ok (.value (.pointer (some ⟨w.heap.size, 0, none⟩))) (w.alloc (.mapIter (some m) cl #[] cl)) := by
    simp [execOp, Instr.range, hx, Sem.run_bind, run_under ht, Result.andThen, Sem.run_pure, getObj, Sem.run, hm]
  rw [this]
  refine k _ _ (Hd.weak ((H1.alloc _).perm (List.Perm.swap _ _ _)).star fun h hh => ⟨(es, cl, #[]), ⟨hv, hs, ?_, fun p hp => by cases hp⟩, hh⟩)
  have : (es.toList.filter fun e => !(#[] : Array Nat).contains e.born) = es.toList := List.filter_eq_self.2 (fun e _ => by simp)
  rw [this]; exact hv
theorem s_nextM {x : Operand} {m b : Nat} {l rest : List (κ × Value)} {cur : Option (κ × Value)} (T : KT P kt κ) (i : Nat) (hi : L[i]? = some (MR T m b l cur rest)) (hx : ev ρ x = .pointer (some ⟨b, 0, none⟩)) (H : Hd s w L)
    (k1 : ∀ p A B w', rest = A ++ p :: B → Hd s w' (L.set i (MR T m b l (some p) (A ++ B))) → K (.tuple #[.bool true, T.kv p.1, p.2]) w')
    (k0 : rest = [] → K (.tuple #[.bool false]) w) : St P ⟨d, .next x false, ty, ps, af, g⟩ ρ w K := by
  obtain ⟨es, cl, seen, ⟨hv, hs, hr, hc⟩, H1⟩ := MR.opn H i hi
  have hm := H1.obj 0 rfl
  have hb := H1.obj 1 rfl
  have hleft : (Go.leftOf es seen).toList = es.toList.filter fun e => !seen.contains e.born := by
    simp [Go.leftOf]
  refine ⟨trivial, ?_⟩
  rcases run_next_at (P := P) w ty b m cl cl seen es cl hb hm (fun x hx => hs.2 x hx) (Nat.le_refl _) with ⟨h0, hrun⟩ | ⟨e, he, w1, hw1, hrun⟩
  · have h00 : rest = [] := by
      have : (es.toList.filter fun e => !seen.contains e.born) = [] := by rw [← hleft]; exact List.eq_nil_of_length_eq_zero (by simpa using h0)
      rw [this] at hr
      exact List.map_eq_nil_iff.1 hr.symm
    have : (execOp (ev ρ) ⟨d, .next x false, ty, ps, af, g⟩).run P w = .ok (.value (.tuple #[.bool false])) w := by
      simp only [execOp, Sem.run_bind, hx, hrun, Result.andThen, Sem.run_pure]
    rw [this]; exact k0 h00
  · have : (execOp (ev ρ) ⟨d, .next x false, ty, ps, af, g⟩).run P w = .ok (.value (.tuple #[.bool true, e.key, e.val])) (ChangeMaps.setBlock w1 b (.mapIter (some m) cl (seen.push e.born) cl)) := by
      simp only [execOp, Sem.run_bind, hx, hrun, Result.andThen, Sem.run_pure]
    rw [this]
    rw [hleft] at he
    obtain ⟨A', B', hsp⟩ := List.append_of_mem he
    have hrl : rest.length = A'.length + (B'.length + 1) := by
      have := congrArg List.length hr
      rw [hsp] at this; simp at this; omega
    rw [hsp, List.map_append, List.map_cons] at hr
    have hsplit : rest = rest.take A'.length ++ rest.drop A'.length := (List.take_append_drop _ _).symm
    cases hd : rest.drop A'.length with
    | nil => have := congrArg List.length hd; simp at this; omega
    | cons p B =>
      rw [hd] at hsplit
      have hr2 := hr
      rw [hsplit, List.map_append, List.map_cons] at hr2
      have hlen : (A'.map fun e => (e.key, e.val)).length = ((rest.take A'.length).map fun p => (T.kv p.1, p.2)).length := by simp; omega
      obtain ⟨hA, hB⟩ := List.append_inj hr2 hlen
      simp only [List.cons.injEq, Prod.mk.injEq] at hB
      obtain ⟨⟨hk, hval⟩, hB⟩ := hB
      rw [hk, hval]
      have hmem : e ∈ es.toList := (List.mem_filter.1 he).1
      have hnd : ((es.toList.filter fun e => !seen.contains e.born).map (·.born)).Nodup := List.Nodup.sublist (List.Sublist.map _ List.filter_sublist) hs.1
      rw [hsp, List.map_append, List.map_cons] at hnd
      obtain ⟨hn1, hn2, hn3⟩ := List.nodup_append.1 hnd
      have hfil : (es.toList.filter fun x => !(seen.push e.born).contains x.born) = A' ++ B' := by
        have : (es.toList.filter fun x => !(seen.push e.born).contains x.born) = (es.toList.filter fun e => !seen.contains e.born).filter fun x => !(x.born == e.born) := by
          rw [List.filter_filter]
          refine List.filter_congr fun x _ => ?_
          rw [Array.contains_push]
          cases seen.contains x.born <;> simp
        rw [this, hsp, List.filter_append, List.filter_cons_of_neg (by simp)]
        have hA1 : A'.filter (fun x => !(x.born == e.born)) = A' := List.filter_eq_self.2 fun x hx => by
          have := hn3 x.born (List.mem_map_of_mem hx) e.born (List.mem_cons_self)
          simpa using this
        have hB1 : B'.filter (fun x => !(x.born == e.born)) = B' := List.filter_eq_self.2 fun x hx => by
          have := (List.nodup_cons.1 hn2).1
          have h3 : x.born ≠ e.born := fun h => this (h ▸ List.mem_map_of_mem hx)
          simpa using h3
        rw [hA1, hB1]
      refine k1 p _ _ _ hsplit ?_
      have H2 : Hd s w1 (pt m (.map es cl) :: pt b (.mapIter (some m) cl seen cl) :: L.eraseIdx i) := by
        rcases hw1 with rfl | rfl
        · exact H1
        · exact H1.drew
      have H3 : Hd s (ChangeMaps.setBlock w1 b (.mapIter (some m) cl (seen.push e.born) cl)) (pt m (.map es cl) :: pt b (.mapIter (some m) cl (seen.push e.born) cl) :: L.eraseIdx i) := H2.putObj 1 rfl _
      refine Hd.back hi (Hd.weak H3.star fun h hh => ⟨(es, cl, seen.push e.born), ⟨hv, hs, ?_, ?_⟩, hh⟩)
      · rw [hfil, List.map_append, List.map_append, hA, hB]
      · rintro q hq
        cases hq
        exact ⟨e, seen, hmem, rfl, hk, hval⟩
theorem x_entry {x : Operand} {m b : Nat} {l rest : List (κ × Value)} {p : κ × Value} (T : KT P kt κ) (H : Hd s w L) (i : Nat) (hi : L[i]? = some (MR T m b l (some p) rest)) (hx : ev ρ x = .pointer (some ⟨b, 0, none⟩)) :
    (execOp (ev ρ) ⟨d, .entry x, ty, ps, af, g⟩).run P w = .ok (.value (.tuple #[T.kv p.1, p.2])) w := by
  obtain ⟨es, cl, seen, ⟨hv, hs, hr, hc⟩, H1⟩ := MR.opn H i hi
  obtain ⟨e, sn, he, rfl, hk, hval⟩ := hc p rfl
  have hrun := run_entry_at (P := P) w b m cl sn es cl e (H1.obj 1 rfl) (H1.obj 0 rfl) he hs.1
  simp only [execOp, Sem.run_bind, hx, hrun, Result.andThen, Sem.run_pure, hk, hval]
theorem x_sliceFromB {t e : TypeId} {x l : Operand} {b o n c i : Nat} {k : IntKind} {z : Value} {sz by_ : Nat} (ht : P.underlying t = some (.slice e)) (hy : Ty P e z sz by_) (hx : ev ρ x = .slice (some ⟨b, o, none⟩) n c) (hl : ev ρ l = .int k (i : Int)) (h1 : i ≤ n) (hc : n ≤ c) :
    (execOp (ev ρ) ⟨d, .slice t x (some l) none none, ty, ps, af, g⟩).run P w = .ok (.value (.slice (some (if c = i then ⟨b, o, none⟩ else ⟨b, o + i * sz, none⟩)) (n - i) (c - i))) w := by
  rw [x_sliceFromA ht hy hx hl h1 hc]
  by_cases h : c = i
  · rw [if_pos h, if_pos h]
  · rw [if_neg h, if_neg h, Option.map_some, add_plain]
theorem x_lookU {t et : TypeId} {x y : Operand} {m : Nat} {es : Array MapEntry} {cl : Nat} {l : List (κ × Value)} {k : κ} {z u : Value} {sz by_ : Nat} {c : Bool} (T : KT P kt κ) (ht : P.underlying t = some (.map kt et)) (hy : Ty P et z sz by_) (hx : ev ρ x = .map (some m)) (hk : ev ρ y = T.kv k) (hm : w.heap[m]? = some (.map es cl)) (hv : MV T.kv es l) (hu : lkV c z (alook k l) = u) :
    (execOp (ev ρ) ⟨d, .lookup t x y c, ty, ps, af, g⟩).run P w = .ok (.value u) w := by subst hu; exact x_lookup T ht hy hx hk hm hv
theorem x_lookM {t et : TypeId} {x y : Operand} {m : Nat} {l : List (κ × Value)} {k : κ} {z u : Value} {sz by_ : Nat} {c : Bool} (T : KT P kt κ) (ht : P.underlying t = some (.map kt et)) (hy : Ty P et z sz by_) (hx : ev ρ x = .map (some m)) (hk : ev ρ y = T.kv k) (H : Hd s w L) (i : Nat) (hi : L[i]? = some (Mp T m l)) (hu : lkV c z (alook k l) = u) :
    (execOp (ev ρ) ⟨d, .lookup t x y c, ty, ps, af, g⟩).run P w = .ok (.value u) w := by
  obtain ⟨es, cl, hm, hv⟩ := Mp.obj T H i hi
  exact x_lookU T ht hy hx hk hm hv hu
theorem RdC.fromA {a : Option Addr} {n c : Nat} {sz : Nat} {cs : List Value} (h : RdC w (.slice a n c) sz n cs) (k : Nat) (hk : k ≤ n) (hc : n ≤ c) : RdC w (.slice (if c = k then a else a.map (·.add (k * sz))) (n - k) (c - k)) sz (n - k) (cs.drop (k * sz)) := by
  by_cases h0 : n - k = 0
  · obtain ⟨⟨hl, hn⟩, hr⟩ := h
    refine ⟨⟨by rw [List.length_drop, hl, Nat.sub_mul], by omega⟩, .inl ⟨h0, _, _, by rw [h0]⟩⟩
  · obtain ⟨b, o, c', hv, _⟩ := h.at_ (show k < n by omega)
    simp only [Value.slice.injEq] at hv
    obtain ⟨rfl, -, rfl⟩ := hv
    have := h.from k (c - k) hk
    rw [if_neg (by omega), Option.map_some, add_plain]
    exact this
theorem s_delete {t et : TypeId} {x y : Operand} {b : Nat} {l : List (κ × Value)} {k : κ} {ats : Array TypeId} (T : KT P kt κ) (ht : P.underlying t = some (.map kt et)) (ha : ats[0]? = some t) (i : Nat) (hi : L[i]? = some (Mp T b l)) (hx : ev ρ x = .map (some b)) (hk : ev ρ y = T.kv k)
    (H : Hd s w L) (kk : ∀ w', Hd s w' (L.set i (Mp T b (adel k l))) → K (.tuple #[]) w') : St P ⟨d, .call { callee := .builtin .delete, args := #[x, y], argTypes := ats }, ty, ps, af, g⟩ ρ w K := by
  refine ⟨trivial, ?_⟩
  obtain ⟨⟨es, cl⟩, ⟨hv, hs⟩, H1⟩ := Hd.opn (φ := fun q : Array MapEntry × Nat => MV T.kv q.1 l ∧ Stamps q.1 q.2) (q := fun q => pt b (.map q.1 q.2)) (H.pick i hi) (fun x hx => hx)
  have hm := H1.obj 0 rfl
  cases hf : aidx k l 0 with
  | none =>
    obtain ⟨h1, h2, h3⟩ := aidx_none hf
    have : (execOp (ev ρ) ⟨d, .call { callee := .builtin .delete, args := #[x, y], argTypes := ats }, ty, ps, af, g⟩).run P w = .ok (.value (.tuple #[])) (w.putObj b (.map es cl)) := by
      simp [execOp, resolve, invoke, builtin, Builtin.delete_, ha, hx, hk, Sem.run_bind, run_under ht, Result.andThen, Sem.run_pure, getObj, Sem.run, hm, T.chk, run_findKey (T := T) hv k, hf, setObj, World.putObj]
    rw [this]
    exact kk _ (Hd.back hi (Hd.weak (H1.putObj 0 rfl _) fun h hp => ⟨(es, cl), ⟨by rw [h3]; exact hv, hs⟩, hp⟩))
  | some jv =>
    obtain ⟨j, v0⟩ := jv
    obtain ⟨_, h2, h3, h4⟩ := aidx_some hf
    simp only [Nat.sub_zero] at h2 h3 h4
    have hsz := MV.size hv
    have hj : j < es.size := by rw [hsz]; exact (List.getElem?_eq_some_iff.1 h2).1
    have : (execOp (ev ρ) ⟨d, .call { callee := .builtin .delete, args := #[x, y], argTypes := ats }, ty, ps, af, g⟩).run P w = .ok (.value (.tuple #[])) (w.putObj b (.map (es.eraseIdxIfInBounds j) cl)) := by
      simp [execOp, resolve, invoke, builtin, Builtin.delete_, ha, hx, hk, Sem.run_bind, run_under ht, Result.andThen, Sem.run_pure, getObj, Sem.run, hm, T.chk, run_findKey (T := T) hv k, hf, setObj, World.putObj]
    rw [this]
    have hel : (es.eraseIdxIfInBounds j).toList = es.toList.eraseIdx j := by
      simp [Array.eraseIdxIfInBounds, hj]
    refine kk _ (Hd.back hi (Hd.weak (H1.putObj 0 rfl _) fun h hp => ⟨(es.eraseIdxIfInBounds j, cl), ⟨?_, ?_, ?_⟩, hp⟩))
    · show List.map _ _ = _
      rw [hel, ← h4, ChangeMaps.map_eraseIdx, ChangeMaps.map_eraseIdx, show es.toList.map (fun e => (e.key, e.val)) = _ from hv]
    · show (List.map _ _).Nodup
      rw [hel]
      exact List.Nodup.sublist (List.Sublist.map _ (List.eraseIdx_sublist _ _)) hs.1
    · intro e he
      rw [hel] at he
      exact hs.2 e ((List.eraseIdx_sublist _ _).subset he)
end
/-! a loop with a number that falls -/
noncomputable def leastN (p : Nat → Prop) : Nat := by
  classical
  exact if h : ∃ n, p n ∧ ∀ m, m < n → ¬ p m then Classical.choose h else 0
theorem leastN_ex {p : Nat → Prop} {n : Nat} (h : p n) : ∃ n, p n ∧ ∀ m, m < n → ¬ p m := by
  induction n using Nat.strongRecOn with
  | ind n ih =>
    by_cases hm : ∃ m, m < n ∧ p m
    · obtain ⟨m, h1, h2⟩ := hm; exact ih m h1 h2
    · exact ⟨n, h, fun m h1 h2 => hm ⟨m, h1, h2⟩⟩
theorem leastN_spec {p : Nat → Prop} {n : Nat} (h : p n) : p (leastN p) ∧ leastN p ≤ n := by
  have he := leastN_ex h
  have e : leastN p = Classical.choose he := by unfold leastN; rw [dif_pos he]
  have hs := Classical.choose_spec he
  rw [e]
  exact ⟨hs.1, Nat.not_lt.1 fun hl => hs.2 n hl h⟩
theorem WC.loopN {P : Program} {r : Option Nat} {N : Nat} {Q : QE} {ρ : Nat → Value} {d0 : List Nat} {w : World} {c : Code} {I : Nat → (Nat → Value) → World → Prop} {n0 : Nat} (h0 : I n0 ρ w)
    (hr : ∀ n ρ w, I n ρ w → WC P r N c (thenE (fun ρ' ds' w' => ds' = d0 ∧ ∃ m, m < n ∧ I m ρ' w') Q) ρ d0 w) : WC P r N (.loop c) Q ρ d0 w := by
  refine WC.loop (fun ρ ds w => ds = d0 ∧ ∃ n, I n ρ w) (fun ρ w => leastN fun n => I n ρ w) ⟨rfl, n0, h0⟩ ?_
  rintro ρ ds w ⟨rfl, n, hn⟩
  obtain ⟨h1, h2⟩ := leastN_spec (p := fun n => I n ρ w) hn
  refine WC.mono (hr _ ρ w h1) ?_
  intro e ρ' ds' w' h
  cases e with
  | normal =>
    obtain ⟨rfl, m, hm, hi⟩ := h
    exact ⟨⟨rfl, m, hi⟩, Nat.lt_of_le_of_lt (leastN_spec (p := fun n => I n ρ' w') hi).2 hm⟩
  | _ => exact h
/-! ### a region that draws, whose effects may come in more than one order -/
def flatOp (o : Oper) : Bool := match o.op with
  | .buildSlice _ _ _ => true
  | .store _ _ _ => true
  | .call c => (match c.callee with | .builtin .append => true | _ => false)
  | _ => false
theorem flat_next {P : Program} {o : Oper} (h : flatOp o = true) {e : Operand → Value} {w w' : World} {n : Next} (hr : (execOp e o).run P w = .ok n w') : (∃ v, n = .value v) ∨ n = .skip := by
  obtain ⟨dst, op, ty, ps, af, g⟩ := o
  cases op <;> simp only [flatOp] at h <;> try cases h
  · simp only [execOp, Sem.run_bind] at hr
    cases hc : (Instr.buildSlice _ _ _ : Sem Value).run P w with
    | ok v w1 => rw [hc] at hr; simp only [Result.andThen, Sem.run_pure, Result.ok.injEq] at hr; exact .inl ⟨v, hr.1.symm⟩
    | halt x w1 => rw [hc] at hr; simp [Result.andThen] at hr
  · simp only [execOp, Sem.run_bind] at hr
    cases hc : (Instr.storeAt _ _ _ : Sem Unit).run P w with
    | ok v w1 => rw [hc] at hr; simp only [Result.andThen, Sem.run_pure, Result.ok.injEq] at hr; exact .inr hr.1.symm
    | halt x w1 => rw [hc] at hr; simp [Result.andThen] at hr
  · rename_i c
    obtain ⟨cal, args, ats⟩ := c
    cases cal with
    | builtin b =>
      cases b <;> try (simp at h; done)
      simp only [execOp, resolve, invoke, builtin, Sem.run_bind, Sem.run_pure, Result.andThen] at hr
      cases hc : (Builtin.append_ _ _ _ : Sem Value).run P w with
      | ok v w1 => rw [hc] at hr; simp only [Result.andThen, Sem.run_pure, Result.ok.injEq] at hr; exact .inl ⟨v, hr.1.symm⟩
      | halt x w1 => rw [hc] at hr; simp [Result.andThen] at hr
    | value x => simp at h
    | invoke x y => simp at h
theorem plain_nodefer {o : Oper} (h : plainOp o = true) : (match o.op with | .defer _ => False | _ => True) := by
  cases hh : o.op <;> simp_all [plainOp]
def firstEff (eff : List Nat) : List Nat → Option (Nat × List Nat)
  | [] => none
  | j :: r => if eff.contains j = true then some (j, r) else firstEff eff r
theorem firstEff_skip {eff : List Nat} : ∀ {p l : List Nat}, (∀ q ∈ p, eff.contains q = false) → firstEff eff (p ++ l) = firstEff eff l
  | [], l, _ => rfl
  | q :: p, l, h => by
    have h1 := h q List.mem_cons_self
    rw [List.cons_append, firstEff, if_neg (by rw [h1]; simp)]
    exact firstEff_skip fun q hq => h q (List.mem_cons_of_mem _ hq)
def nexts (eff : List Nat) (i : Nat) (S : List (List Nat)) : List (List Nat) := S.filterMap fun c => match firstEff eff c with
  | some (j, rest) => if j = i then some rest else none
  | none => none
theorem mem_nexts {eff : List Nat} {i : Nat} {S : List (List Nat)} {t : List Nat} (h : t ∈ nexts eff i S) : ∃ c ∈ S, firstEff eff c = some (i, t) := by
  obtain ⟨c, hc, h1⟩ := List.mem_filterMap.1 h
  refine ⟨c, hc, ?_⟩
  split at h1
  · rename_i j rest he
    split at h1
    · rename_i hj; cases h1; rw [he, hj]
    · cases h1
  · cases h1
def hcov (eff : List Nat) (bef : List (List Nat)) : Nat → List (List Nat) → Bool
  | 0, S => S.all fun c => c.all fun i => !eff.contains i
  | n + 1, S => (S.all fun c => match firstEff eff c with
      | none => true
      | some (_, rest) => rest.all fun q => eff.contains q || (bef.getD q []).any fun f => eff.contains f && c.contains f) &&
    S.all fun c => c.all fun i => !eff.contains i || (bef.getD i []).any (fun f => eff.contains f && S.any fun c => c.contains f) || (!(nexts eff i S).isEmpty && hcov eff bef n (nexts eff i S))
section
variable {P : Program} {r : Option Nat} {N : Nat} {ops : Array Oper} {eff : List Nat} {bef : List (List Nat)} {Q : QE}
def Alt (P : Program) (r : Option Nat) (N : Nat) (ops : Array Oper) (eff : List Nat) (bef : List (List Nat)) (Q : QE) (fuel : Nat) (listed : Array Bool) (ds : List Nat) (a : Act) (w : World) (c : List Nat) : Prop :=
  ∃ late can done pend ρ p, c = p ++ can ∧ (∀ q ∈ p, eff.contains q = false) ∧ Inv P N ops eff bef listed late can done ρ ds a w ∧ WK P r N ops eff bef Q can pend ρ ds w ∧ (∀ k ∈ late, k ∈ pend) ∧ late.length + can.length = fuel
/-- a reading, ready: it has been done, in the order walked -/
theorem Alt.late {n fuel : Nat} {listed : Array Bool} {ds : List Nat} {a : Act} {w : World} {S : List (List Nat)} {c : List Nat} {i : Nat} (hn : namesOk N ops eff bef = true) (hcv : hcov eff bef n S = true) (hc : c ∈ S) (A : Alt P r N ops eff bef Q fuel listed ds a w c)
    (hlt : i < ops.size) (hf : listed.getD i true = false) (hr : ∀ k ∈ bef.getD i [], listed.getD k false = true) (he : eff.contains i = false) :
    ∃ late can done pend ρ p, c = p ++ can ∧ (∀ q ∈ p, eff.contains q = false) ∧ Inv P N ops eff bef listed late can done ρ ds a w ∧ WK P r N ops eff bef Q can pend ρ ds w ∧ (∀ k ∈ late, k ∈ pend) ∧ late.length + can.length = fuel ∧ i ∈ late := by
  obtain ⟨late, can, done, pend, ρ, p, h1, h2, I, hk, hp, hl⟩ := A
  rcases (I.free i hlt).1 hf with h | h
  · exact ⟨late, can, done, pend, ρ, p, h1, h2, I, hk, hp, hl, h⟩
  · obtain ⟨l', c', d', p', ρ', g1, g2, g3, g4, g5, pp, g6, g7⟩ := Inv.adv hn hr can late done pend ρ ds a w I hk hp h
    have h3 : c = (p ++ pp) ++ c' := by rw [h1, g6, List.append_assoc]
    have h4 : ∀ q ∈ p ++ pp, eff.contains q = false := fun q hq => by
      rcases List.mem_append.1 hq with h | h
      · exact h2 q h
      · exact g7 q h
    rcases g5 with (g5 | ⟨rest, rfl, he2⟩) | ⟨j, rest, rfl, hej, hne, hir⟩
    · exact ⟨l', c', d', p', ρ', p ++ pp, h3, h4, g1, g2, g3, by omega, g5⟩
    · rw [he] at he2; cases he2
    · exfalso
      have hfe : firstEff eff c = some (j, rest) := by rw [h3, firstEff_skip h4, firstEff, if_pos hej]
      have hjc : j ∈ c := by rw [h3]; simp
      cases n with
      | zero =>
        have h5 := List.all_eq_true.1 (List.all_eq_true.1 hcv c hc) j hjc
        rw [hej] at h5; cases h5
      | succ n =>
        simp only [hcov, Bool.and_eq_true] at hcv
        have h5 := List.all_eq_true.1 hcv.1 c hc
        rw [hfe] at h5
        have h6 := List.all_eq_true.1 h5 i hir
        rw [he, Bool.false_or] at h6
        obtain ⟨f, hfb, hff⟩ := List.any_eq_true.1 h6
        simp only [Bool.and_eq_true] at hff
        have hfc : f ∈ j :: rest := by
          have : f ∈ c := List.contains_iff_mem.1 hff.2
          rw [h3] at this
          rcases List.mem_append.1 this with h | h
          · have := h4 f h; rw [hff.1] at this; cases this
          · exact h
        have hflt := g1.ltC f hfc
        have h0 := (g1.free f hflt).2 (.inr hfc)
        rw [getD_def (by rw [g1.size]; exact hflt), hr f hfb] at h0
        cases h0
/-- an effect, ready: it is ahead -/
theorem Alt.head {fuel : Nat} {listed : Array Bool} {ds : List Nat} {a : Act} {w : World} {c t : List Nat} {i : Nat} (hn : namesOk N ops eff bef = true) (A : Alt P r N ops eff bef Q fuel listed ds a w c)
    (hlt : i < ops.size) (hf : listed.getD i true = false) (hr : ∀ k ∈ bef.getD i [], listed.getD k false = true) (he : eff.contains i = true) (ht : firstEff eff c = some (i, t)) :
    ∃ late done pend ρ, Inv P N ops eff bef listed late (i :: t) done ρ ds a w ∧ WK P r N ops eff bef Q (i :: t) pend ρ ds w ∧ (∀ k ∈ late, k ∈ pend) ∧ late.length + (i :: t).length = fuel := by
  obtain ⟨late, can, done, pend, ρ, p, h1, h2, I, hk, hp, hl⟩ := A
  have hic : i ∈ can := by
    rcases (I.free i hlt).1 hf with h | h
    · have := (I.reads i h).1; rw [he] at this; cases this
    · exact h
  obtain ⟨l', c', d', p', ρ', g1, g2, g3, g4, g5, pp, g6, g7⟩ := Inv.adv hn hr can late done pend ρ ds a w I hk hp hic
  have h3 : c = (p ++ pp) ++ c' := by rw [h1, g6, List.append_assoc]
  have h4 : ∀ q ∈ p ++ pp, eff.contains q = false := fun q hq => by
    rcases List.mem_append.1 hq with h | h
    · exact h2 q h
    · exact g7 q h
  rw [h3, firstEff_skip h4] at ht
  rcases g5 with (g5 | ⟨rest, rfl, he2⟩) | ⟨j, rest, rfl, hej, hne, hir⟩
  · have := (g1.reads i g5).1; rw [he] at this; cases this
  · rw [firstEff, if_pos he2] at ht
    cases ht
    exact ⟨l', d', p', ρ', g1, g2, g3, by omega⟩
  · rw [firstEff, if_pos hej] at ht
    simp only [Option.some.injEq, Prod.mk.injEq] at ht
    exact absurd ht.1 hne
theorem WK.anyS (hb : befOk ops bef = true) (hdn : downOk ops = true) (hn : namesOk N ops eff bef = true) (hfl : ∀ j o, eff.contains j = true → ops[j]? = some o → flatOp o = true) : ∀ (fuel n : Nat) (listed : Array Bool) (ds : List Nat) (a : Act) (w : World) (S : List (List Nat)),
    S ≠ [] → hcov eff bef n S = true → (∀ c ∈ S, Alt P r N ops eff bef Q fuel listed ds a w c) → wpAnyIn (Fe r) 0 P .any ops (QA N Q) fuel listed a w := by
  intro fuel
  induction fuel with
  | zero =>
    intro n listed ds a w S hS hcv hA
    obtain ⟨c0, hc0⟩ := List.exists_mem_of_ne_nil _ hS
    obtain ⟨late, can, done, pend, ρ, p, h1, h2, I, hk, hp, hl⟩ := hA c0 hc0
    obtain rfl : late = [] := List.eq_nil_of_length_eq_zero (by omega)
    obtain rfl : can = [] := List.eq_nil_of_length_eq_zero (by omega)
    refine ⟨?_, ρ, ds, ⟨I.tsize, fun k => I.agree k (fun _ h => by cases h), I.tds⟩, hk⟩
    cases h : Region.ready .any ops listed with
    | nil => rfl
    | cons i t =>
      obtain ⟨h1, h2, _⟩ := mem_ready (show i ∈ Region.ready .any ops listed by rw [h]; exact List.mem_cons_self)
      rcases (I.free i h1).1 h2 with h | h <;> cases h
  | succ fuel ih =>
    intro n listed ds a w S hS hcv hA
    obtain ⟨c0, hc0⟩ := List.exists_mem_of_ne_nil _ hS
    refine ⟨fun h => ?_, fun i hi => ?_⟩
    · obtain ⟨late, can, done, pend, ρ, p, h1, h2, I, hk, hp, hl⟩ := hA c0 hc0
      obtain ⟨rfl, rfl⟩ := I.empty hdn h
      simp at hl
    · have hr : ∀ k ∈ bef.getD i [], listed.getD k false = true := by
        obtain ⟨late, can, done, pend, ρ, p, h1, h2, I, hk, hp, hl⟩ := hA c0 hc0
        exact ready_bef hb I.size I.closed hi
      obtain ⟨hlt, hf, _⟩ := mem_ready hi
      have hoi := Array.getElem?_eq_getElem hlt
      have hdo : dstOf ops i = ops[i].dst := by simp [dstOf, hoi]
      have hplain := (names_of hn hlt).2.1 _ hoi
      have hagree : ∀ {late can done : List Nat} {ρ : Nat → Value}, Inv P N ops eff bef listed late can done ρ ds a w → Region.wanted ops[i] (yielded ops a.tmps) = Region.wanted ops[i] (yieldE ops ρ) ∧ execOp a.eval ops[i] = execOp (ev ρ) ops[i] := fun {late can done ρ} I => by
        have hlook := I.look hn hlt hr
        have hlook' : ∀ t ∈ ops[i].looksAt ops, a.tmps.getD t undef = ρ t := by simpa [looks, hoi] using hlook
        have hfit : Fits N a (fun k => a.tmps.getD k undef) ds := ⟨I.tsize, fun _ => rfl, I.tds⟩
        refine ⟨?_, by rw [hfit.eval]; exact ev_congr (ops := ops) hplain hlook'⟩
        rw [show yielded ops a.tmps = yieldE ops (fun k => a.tmps.getD k undef) from funext (yielded_eq hfit)]
        exact wanted_congr hlook'
      unfold wpOpIn
      rw [hoi]
      simp only
      cases he : eff.contains i with
      | false =>
        have hL := fun c hc => Alt.late hn hcv hc (hA c hc) hlt hf hr he
        obtain ⟨late, can, done, pend, ρ, p, h1, h2, I, hk, hp, hl, hil⟩ := hL c0 hc0
        obtain ⟨hwant, hexec⟩ := hagree I
        have hrd := (I.reads i hil).2
        simp only [RSk, hoi] at hrd
        cases hd : ops[i].dst with
        | none => rw [hd] at hrd; exact hrd.elim
        | some d =>
          rw [hd] at hrd
          simp only at hrd
          have hdo2 : dstOf ops i = some d := by rw [hdo, hd]
          have fin : ∀ v, (∀ {late can done : List Nat} {ρ' : Nat → Value}, Inv P N ops eff bef listed late can done ρ' ds a w → i ∈ late → ρ' d = v) → wpAnyIn (Fe r) 0 P .any ops (QA N Q) fuel (listed.setIfInBounds i true) (a.put (some d) v) w := fun v hv => by
            refine ih n _ ds _ w S hS hcv fun c hc => ?_
            obtain ⟨late, can, done, pend, ρ, p, h1, h2, I, hk, hp, hl, hil⟩ := hL c hc
            have I' := I.stepLate hn hil hdo2 hr
            rw [hv I hil] at I'
            exact ⟨_, can, done, pend, ρ, p, h1, h2, I', hk, fun k hk => hp k (List.mem_of_mem_erase hk), by
              have := List.length_erase_of_mem hil
              have := List.length_pos_of_mem hil
              omega⟩
          rcases hrd.2 with ⟨hw, hx⟩ | ⟨hw, hx⟩
          · rw [hwant, if_pos hw]
            refine St.wpIn (ρ := ρ) hexec (K := fun v w' => v = ρ d ∧ w' = w) ⟨plain_nodefer hplain, by rw [hx]; exact ⟨rfl, rfl⟩⟩ ?_
            rintro v w' ⟨rfl, rfl⟩
            rw [hd]
            refine fin _ fun {late can done ρ'} I2 hil2 => ?_
            obtain ⟨hwant2, hexec2⟩ := hagree I2
            have hrd2 := (I2.reads i hil2).2
            simp only [RSk, hoi, hd] at hrd2
            rcases hrd2.2 with ⟨hw2, hx2⟩ | ⟨hw2, hx2⟩
            · rw [← hexec2, hexec, hx] at hx2
              simp only [Result.ok.injEq, Next.value.injEq, and_true] at hx2
              exact hx2.symm
            · rw [← hwant2, hwant, hw] at hw2; cases hw2
          · rw [hwant, if_neg (by rw [hw]; simp)]
            refine ⟨fun _ _ => trivial, ?_⟩
            refine fin _ fun {late can done ρ'} I2 hil2 => ?_
            obtain ⟨hwant2, hexec2⟩ := hagree I2
            have hrd2 := (I2.reads i hil2).2
            simp only [RSk, hoi, hd] at hrd2
            rcases hrd2.2 with ⟨hw2, hx2⟩ | ⟨hw2, hx2⟩
            · rw [← hwant2, hwant, hw] at hw2; cases hw2
            · exact hx2
      | true =>
        obtain ⟨late0, can0, done0, pend0, ρ0, p0, h10, h20, I0, hk0, hp0, hl0⟩ := hA c0 hc0
        have hic : i ∈ can0 := by
          rcases (I0.free i hlt).1 hf with h | h
          · have := (I0.reads i h).1; rw [he] at this; cases this
          · exact h
        have hic0 : i ∈ c0 := by rw [h10]; exact List.mem_append_right _ hic
        cases n with
        | zero =>
          have h5 := List.all_eq_true.1 (List.all_eq_true.1 hcv c0 hc0) i hic0
          rw [he] at h5; cases h5
        | succ n =>
          simp only [hcov, Bool.and_eq_true] at hcv
          have h5 := List.all_eq_true.1 (List.all_eq_true.1 hcv.2 c0 hc0) i hic0
          rw [he, Bool.not_true, Bool.false_or, Bool.or_eq_true] at h5
          have hnx : (nexts eff i S) ≠ [] ∧ hcov eff bef n (nexts eff i S) = true := by
            rcases h5 with h5 | h5
            · exfalso
              obtain ⟨f, hfb, hff⟩ := List.any_eq_true.1 h5
              simp only [Bool.and_eq_true] at hff
              obtain ⟨c', hc', hfc⟩ := List.any_eq_true.1 hff.2
              obtain ⟨late1, can1, done1, pend1, ρ1, p1, h11, h21, I1, _⟩ := hA c' hc'
              have hfc1 : f ∈ can1 := by
                have := List.contains_iff_mem.1 hfc
                rw [h11] at this
                rcases List.mem_append.1 this with h | h
                · have := h21 f h; rw [hff.1] at this; cases this
                · exact h
              have hflt := I1.ltC f hfc1
              have h0 := (I1.free f hflt).2 (.inr hfc1)
              rw [getD_def (by rw [I1.size]; exact hflt), hr f hfb] at h0
              cases h0
            · simp only [Bool.and_eq_true, Bool.not_eq_true', List.isEmpty_eq_false_iff] at h5
              exact h5
          have hH : ∀ t ∈ nexts eff i S, ∃ late done pend ρ, Inv P N ops eff bef listed late (i :: t) done ρ ds a w ∧ WK P r N ops eff bef Q (i :: t) pend ρ ds w ∧ (∀ k ∈ late, k ∈ pend) ∧ late.length + (i :: t).length = fuel + 1 := fun t ht => by
            obtain ⟨c, hc, hfe⟩ := mem_nexts ht
            exact Alt.head hn (hA c hc) hlt hf hr he hfe
          obtain ⟨t0, ht0⟩ := List.exists_mem_of_ne_nil _ hnx.1
          obtain ⟨late, done, pend, ρ, I, hk, hp, hl⟩ := hH t0 ht0
          obtain ⟨hwant, hexec⟩ := hagree I
          simp only [WK, hoi, he, cond_true] at hk
          rcases hk with ⟨hw, hst⟩ | ⟨hw, _, _⟩
          · rw [hwant, if_pos hw]
            refine St.wpIn (ρ := ρ) hexec (K := fun v w' => ∀ t ∈ nexts eff i S, Alt P r N ops eff bef Q fuel (listed.setIfInBounds i true) ds (a.put ops[i].dst v) w' t) ⟨hst.1, ?_⟩ fun v w' hK => ih n _ ds _ w' _ hnx.1 hnx.2 hK
            have fin : ∀ v w', (∀ (ρ' : Nat → Value) (K : Value → World → Prop), execOp a.eval ops[i] = execOp (ev ρ') ops[i] → St P ops[i] ρ' w K → K v w') → ∀ t ∈ nexts eff i S, Alt P r N ops eff bef Q fuel (listed.setIfInBounds i true) ds (a.put ops[i].dst v) w' t := fun v w' hall t ht => by
              obtain ⟨late, done, pend, ρ', I, hk, hp, hl⟩ := hH t ht
              obtain ⟨hwant2, hexec2⟩ := hagree I
              simp only [WK, hoi, he, cond_true] at hk
              rcases hk with ⟨hw2, hst2⟩ | ⟨hw2, _, _⟩
              · obtain ⟨hstab, hk'⟩ := hall ρ' _ hexec2 hst2
                rw [← hdo] at hstab hk' ⊢
                exact ⟨late, t, _, pend, _, [], rfl, (fun q h => by cases h), I.stepEff hn he hr hp hstab, hk', hp, by simp at hl; omega⟩
              · rw [← hwant2, hwant, hw] at hw2; cases hw2
            have hst2 := hst.2
            cases hrun : (execOp (ev ρ) ops[i]).run P w with
            | halt x w1 => rw [hrun] at hst2; exact hst2.elim
            | ok nx w1 =>
              have hgo : ∀ v, nx = .value v ∨ (nx = .skip ∧ v = undef) → ∀ (ρ' : Nat → Value) (K : Value → World → Prop), execOp a.eval ops[i] = execOp (ev ρ') ops[i] → St P ops[i] ρ' w K → K v w1 := fun v hv ρ' K hex hS => by
                have h9 := hS.2
                rw [← hex, hexec, hrun] at h9
                rcases hv with rfl | ⟨rfl, rfl⟩ <;> exact h9
              rcases flat_next (hfl i _ he hoi) hrun with ⟨v, rfl⟩ | rfl
              · exact fin v w1 (hgo v (.inl rfl))
              · exact fin undef w1 (hgo undef (.inr ⟨rfl, rfl⟩))
          · rw [hwant, if_neg (by rw [hw]; simp)]
            refine ⟨fun _ _ => trivial, ih n _ ds _ w _ hnx.1 hnx.2 fun t ht => ?_⟩
            obtain ⟨late, done, pend, ρ', I, hk, hp, hl⟩ := hH t ht
            obtain ⟨hwant2, hexec2⟩ := hagree I
            simp only [WK, hoi, he, cond_true] at hk
            rcases hk with ⟨hw2, hst2⟩ | ⟨hw2, hstab, hk'⟩
            · rw [← hwant2, hwant, hw] at hw2; cases hw2
            · rw [← hdo] at hstab hk' ⊢
              exact ⟨late, t, _, pend, _, [], rfl, (fun q h => by cases h), I.stepEff hn he hr hp hstab, hk', hp, by simp at hl; omega⟩
def canS (N : Nat) (ops : Array Oper) (eff : List Nat) (bef : List (List Nat)) (n : Nat) (S : List (List Nat)) : Bool :=
  befOk ops bef && downOk ops && namesOk N ops eff bef && hcov eff bef n S && !S.isEmpty && (S.all fun can => topoA bef [] can && can.length == ops.size && decide can.Nodup && (can.all fun i => Nat.blt i ops.size) && (List.range ops.size).all fun i => can.contains i) && (List.range ops.size).all fun i => !eff.contains i || (match ops[i]? with | some o => flatOp o | none => false)
theorem WC.drawS {id : Nat} {l : List Oper} {ρ : Nat → Value} {ds : List Nat} {w : World} (hm : P.follows .mixedOrders = true) (eff : List Nat) (bef : List (List Nat)) (n : Nat) (S : List (List Nat)) (hc : canS N l.toArray eff bef n S = true)
    (h : ∀ can ∈ S, WK P r N l.toArray eff bef Q can [] ρ ds w.drew) : WC P r N (.region id l.toArray true) Q ρ ds w := fun a ha => by
  simp only [canS, Bool.and_eq_true] at hc
  obtain ⟨⟨⟨⟨⟨⟨hb, hdn⟩, hn⟩, hcv⟩, hne⟩, hall⟩, hfl⟩ := hc
  have hne : S ≠ [] := by simpa using hne
  refine wpIn_region_any hm (WK.anyS hb hdn hn (fun j o hj ho => ?_) _ n _ ds a _ S hne hcv fun can hcan => ?_)
  · have hlt : j < l.toArray.size := (Array.getElem?_eq_some_iff.1 ho).1
    have h1 := List.all_eq_true.1 hfl j (List.mem_range.2 hlt)
    rw [hj, ho] at h1
    simpa using h1
  · have h1 := List.all_eq_true.1 hall can hcan
    simp only [Bool.and_eq_true] at h1
    obtain ⟨⟨⟨⟨htp, hlen⟩, hnd⟩, hlt⟩, hcov⟩ := h1
    have hlen : can.length = l.toArray.size := by simpa using hlen
    have hnd : can.Nodup := by simpa using hnd
    have hltc : ∀ i ∈ can, i < l.toArray.size := fun i hi => blt_lt (List.all_eq_true.1 hlt i hi)
    have hmem : ∀ i, i < l.toArray.size → i ∈ can := fun i hi => List.contains_iff_mem.1 (List.all_eq_true.1 hcov i (List.mem_range.2 hi))
    refine ⟨[], can, [], [], ρ, [], rfl, (fun q h => by cases h), ?_, h can hcan, (fun _ h => by cases h), by simp [hlen]⟩
    refine ⟨by simp, ?_, ?_, List.nodup_nil, (fun _ h => by cases h), (fun _ h => by cases h), (fun _ h => by cases h), hltc, htp, (fun _ h => by cases h), (fun _ h => by cases h), hnd, ha.1, ha.2.2, fun k _ => ha.2.1 k, (fun _ h => by cases h)⟩
    · intro i hi
      have : (Array.replicate l.toArray.size false).getD i true = false := by simp [Array.getD_eq_getD_getElem?, Array.getElem?_replicate, show i < l.length by simpa using hi]
      exact ⟨fun _ => .inr (hmem i hi), fun _ => this⟩
    · intro i hi h
      have : (Array.replicate l.toArray.size false).getD i true = false := by simp [Array.getD_eq_getD_getElem?, Array.getElem?_replicate, show i < l.length by simpa using hi]
      rw [this] at h; cases h
end
section
variable {P : Program} {w : World} {ρ : Nat → Value} {d : Option Tmp} {ty : TypeId} {ps : String} {af : Array Edge} {g : Option (Nat × Bool)}
theorem x_remT {t t2 : TypeId} {x y : Operand} {a b : Int} (hx : ev ρ x = .int .i64 a) (hy : ev ρ y = .int .i64 b) (hb : 0 < b) :
    (execOp (ev ρ) ⟨d, .binOp .rem t x y t2, ty, ps, af, g⟩).run P w = .ok (.value (.int .i64 (a.tmod b))) w := x_bin hx hy (by
  simp [binOp, Op.intDiv, Sem.run_pure, show b ≠ 0 by omega])
theorem tmod_law {a b : Int} (hb : 0 < b) : -b < a.tmod b ∧ a.tmod b < b ∧ (a.tmod b < 0 → a.tmod b + b = a % b) ∧ (¬ a.tmod b < 0 → a.tmod b = a % b) := by
  have h1 := Int.emod_nonneg a (show b ≠ 0 by omega)
  have h2 := Int.emod_lt_of_pos a hb
  have h3 := Int.tmod_eq_emod (a := a) (b := b)
  by_cases h : 0 ≤ a ∨ b ∣ a
  · rw [if_pos h] at h3; omega
  · rw [if_neg h] at h3; omega
end
end KE
