/-
  The engine of this proof, for any program: lists of parts, more operations. No condition.
-/
import Derived.Test.YtpoahelomhjnaaaKEj
set_option linter.unusedVariables false
set_option linter.unusedSimpArgs false
namespace KE
open Go Go.RowKit
section
variable {P : Program} {w : World} {ρ : Nat → Value} {d : Option Tmp} {ty : TypeId} {ps : String} {af : Array Edge} {g : Option (Nat × Bool)} {s : Sy} {L : List Hp} {K : Value → World → Prop}
theorem blockE_n {id : Nat} {Q : QE} {ds : List Nat} (h : Q .normal ρ ds w) : blockE id Q .normal ρ ds w := h
def strIt (w : World) (v : Value) : Nat := match v with | .pointer (some a) => (match w.heap[a.block]? with | some (.stringIter _ p) => p | _ => 0) | _ => 0
theorem strIt_eq {w : World} {b p : Nat} {x : ByteArray} (h : w.heap[b]? = some (.stringIter x p)) : strIt w (.pointer (some ⟨b, 0, none⟩)) = p := by simp [strIt, h]
theorem cells_one {u : Value} (h1 : oneC u = true) : u.cells = #[u] := by cases u <;> first | rfl | (simp [Value.oneCell'] at h1)
theorem fill_list : ∀ (vs : List Value) (k : Nat) (cs : Array Value), cs.size = k + vs.length → (∀ v ∈ vs, oneC v = true) →
    Instr.fill (fun i => some (i * 1, 1)) cs ((vs.zipIdx k).map fun p => (p.2, p.1)) = some (cs.toList.take k ++ vs).toArray
  | [], k, cs, hs, _ => by
    simp only [List.zipIdx_nil, List.map_nil, Instr.fill, List.append_nil]
    rw [List.take_of_length_le (by simp at hs ⊢; omega)]
  | v :: vs, k, cs, hs, h1 => by
    have hc := cells_one (h1 v List.mem_cons_self)
    have ih := fill_list vs (k + 1) (cs.setIfInBounds k v) (by simp at hs ⊢; omega) (fun u hu => h1 u (List.mem_cons_of_mem _ hu))
    simp only [List.zipIdx_cons, List.map_cons, Instr.fill]
    rw [hc]
    have : ¬ (k * 1 + 1 > cs.size) := by simp at hs; omega
    simp only [Array.size_singleton, Nat.mul_one]
    simp [show ¬ (k + 1 > cs.size) from by simp at hs; omega]
    simp at ih
    rw [ih]
    have hlt : k < cs.toList.length := by simp at hs ⊢; omega
    congr 2
    rw [List.take_succ_eq_append_getElem (by simpa using hlt)]
    simp [List.take_set]
    exact List.set_eq_of_length_le (by rw [List.length_take]; omega)
theorem s_buildN {t e : TypeId} {n : Nat} {parts : Array (Nat × Operand)} {xs : List Operand} {z : Value} {vs : List Value} {by_ : Nat} (ht : P.underlying t = some (.slice e)) (hy : Ty P e z 1 by_) (hz : z.cells.size = 1)
    (hp : parts = (xs.zipIdx.map fun p => (p.2, p.1)).toArray) (hv : xs.map (ev ρ) = vs) (hn : n = vs.length) (hn0 : 0 < n) (hn1 : n ≤ 1000) (h1 : ∀ v ∈ vs, oneC v = true)
    (H : Hd s w L) (k : ∀ b w', Hd s w' (Sl (.slice (some ⟨b, 0, none⟩) n n) e 1 n vs :: L) → K (.slice (some ⟨b, 0, none⟩) n n) w') : St P ⟨d, .buildSlice t n parts, ty, ps, af, g⟩ ρ w K := by
  subst hp
  refine s_buildSlice (cells := vs.toArray) ht hy (by omega) (by omega) ?_ (by simp [hn]) H (by simpa using k)
  have hI : ((Array.range (n * 1)).map fun x => z.cells[x % z.cells.size]!).size = n := by simp
  generalize ((Array.range (n * 1)).map fun x => z.cells[x % z.cells.size]!) = I at hI
  have hq : ((xs.zipIdx.map fun p => (p.2, p.1)).toArray.map fun (i, x) => (i, ev ρ x)).toList = (vs.zipIdx 0).map fun p => (p.2, p.1) := by
    subst hv
    simp only [List.map_toArray, List.map_map]
    have : ∀ (xs : List Operand) (k : Nat), (xs.zipIdx k).map ((fun (p : Nat × Operand) => (p.1, ev ρ p.2)) ∘ fun p => (p.2, p.1)) = ((xs.map (ev ρ)).zipIdx k).map fun p => (p.2, p.1) := by
      intro xs
      induction xs with
      | nil => intro k; rfl
      | cons x xs ih => intro k; simp only [List.zipIdx_cons, List.map_cons, ih (k + 1)]; rfl
    exact this xs 0
  rw [hq, fill_list vs 0 I (by omega) h1]
  simp
theorem s_nextA {x : Operand} {st : ByteArray} {b p : Nat} (i : Nat) (hi : L[i]? = some (pt b (.stringIter st p))) (hx : ev ρ x = .pointer (some ⟨b, 0, none⟩)) (ha : ∀ (p : Nat) (h : p < st.size), st[p].toNat < 128) (H : Hd s w L)
    (k1 : ∀ (hp : p < st.size) w', Hd s w' (L.set i (pt b (.stringIter st (p + 1)))) → K (.tuple #[.bool true, .int .i64 p, .int .i32 (st[p].toNat : Nat)]) w')
    (k0 : ¬ p < st.size → K (.tuple #[.bool false]) w) : St P ⟨d, .next x true, ty, ps, af, g⟩ ρ w K :=
  s_nextS i hi hx H (fun hp w' H' => by
    have hd := decode_ascii hp (ha p hp)
    rw [hd] at H' ⊢
    exact k1 hp w' H') k0
theorem x_makeFuncL {f : Fn} {a c : List Operand} : (execOp (ev ρ) ⟨d, .makeFunc f a.toArray c.toArray, ty, ps, af, g⟩).run P w = .ok (.value (.func f (a.map (ev ρ)).toArray (c.map (ev ρ)).toArray)) w := by
  rw [x_makeFunc]; simp only [List.map_toArray]
theorem Hd.pure {φ : Prop} (hφ : φ) (H : Hd s w L) : Hd s w ((fun _ => φ) :: L) := by
  obtain ⟨h0, h, hs, hL⟩ := H
  refine ⟨h0, h, hs, fun _ => none, h, fun _ => .inl rfl, ?_, hφ, hL⟩
  funext i; simp [hor]
theorem s_build0 {t e : TypeId} {z : Value} {sz by_ : Nat} (ht : P.underlying t = some (.slice e)) (hy : Ty P e z sz by_)
    (H : Hd s w L) (k : ∀ b w', Hd s w' (Sl (.slice (some ⟨b, 0, none⟩) 0 0) e sz 0 [] :: L) → K (.slice (some ⟨b, 0, none⟩) 0 0) w') : St P ⟨d, .buildSlice t 0 #[], ty, ps, af, g⟩ ρ w K := by
  refine ⟨trivial, ?_⟩
  have : (execOp (ev ρ) ⟨d, .buildSlice t 0 #[], ty, ps, af, g⟩).run P w = .ok (.value (.slice (some ⟨w.heap.size, 0, none⟩) 0 0)) (w.alloc (.cells #[] e)) := by
    simp [execOp, Instr.buildSlice, Sem.run_bind, run_under ht, Result.andThen, Sem.run_pure, hy.size, Instr.fill, newRow]
    congr 2
    exact Array.eq_empty_of_size_eq_zero (by simp)
  rw [this]
  exact k _ _ (Hd.weak (H.alloc _) fun h hp => ⟨⟨by simp, by omega⟩, .inr ⟨(w.heap.size, 0, 0, #[]), ⟨rfl, Nat.le_refl _, by simp, fun j u hj => by simp at hj⟩, hp⟩⟩)
def fillL (place : Nat → Option (Nat × Nat)) : List Value → List (Nat × Value) → Option (List Value)
  | cs, [] => some cs
  | cs, (i, v) :: rest => match place i with
    | none => none
    | some (off, size) => bif Nat.beq v.cells.toList.length size && Nat.ble (off + v.cells.toList.length) cs.length then fillL place (cs.take off ++ v.cells.toList ++ cs.drop (off + v.cells.toList.length)) rest else none
theorem set_run : ∀ (vs : List Value) (k off : Nat) (cs : List Value), off + k + vs.length ≤ cs.length →
    (vs.zipIdx k).foldl (fun (cs : Array Value) (p : Value × Nat) => cs.setIfInBounds (off + p.2) p.1) cs.toArray = (cs.take (off + k) ++ vs ++ cs.drop (off + k + vs.length)).toArray
  | [], k, off, cs, h => by simp
  | v :: vs, k, off, cs, h => by
    simp only [List.length_cons] at h
    simp only [List.zipIdx_cons, List.foldl_cons, List.setIfInBounds_toArray]
    rw [set_run vs (k + 1) off _ (by simp; omega)]
    congr 1
    have hlt : off + k < (cs.set (off + k) v).length := by simp; omega
    rw [show off + (k + 1) = off + k + 1 from by omega, List.take_succ_eq_append_getElem hlt]
    simp only [List.getElem_set_self, List.take_set, List.length_cons]
    rw [List.set_eq_of_length_le (by rw [List.length_take]; omega), List.drop_set_of_lt (by omega)]
    simp [Nat.add_assoc, Nat.add_comm 1 vs.length]
theorem fill_fillL (place : Nat → Option (Nat × Nat)) : ∀ (ps : List (Nat × Value)) (cs : List Value), Instr.fill place cs.toArray ps = (fillL place cs ps).map List.toArray
  | [], cs => rfl
  | (i, v) :: ps, cs => by
    simp only [Instr.fill, fillL]
    cases place i with
    | none => rfl
    | some q =>
      obtain ⟨off, size⟩ := q
      simp only
      cases h1 : Nat.beq v.cells.toList.length size with
      | false =>
        have : v.cells.size ≠ size := fun e => by have := Nat.beq_refl size; simp only [Array.length_toList, e] at h1; rw [this] at h1; cases h1
        simp [this]
      | true =>
        have h1' : v.cells.size = size := by have := Nat.eq_of_beq_eq_true h1; simpa using this
        cases h2 : Nat.ble (off + v.cells.toList.length) cs.length with
        | false =>
          have : cs.length < off + v.cells.size := Nat.lt_of_not_le fun hl => by have := Nat.ble_eq_true_of_le hl; simp only [Array.length_toList] at h2; rw [this] at h2; cases h2
          simp [this]
        | true =>
          have h2' : off + v.cells.size ≤ cs.length := by have := Nat.le_of_ble_eq_true h2; simpa using this
          have := set_run v.cells.toList 0 off cs (by simpa using h2')
          simp only [Nat.add_zero] at this
          rw [if_neg (by simp [h1', Nat.not_lt.2 (h1' ▸ h2')])]
          simp only [Bool.and_self, cond_true]
          rw [← fill_fillL place ps, ← this, ← Array.foldl_toList, Array.toList_zipIdx]
theorem x_buildL {t : TypeId} {fs : List Field} {parts : List (Nat × Operand)} {z : Value} {sz by_ : Nat} {pl : List (Nat × Nat)} {cells : List Value} (ht : P.underlying t = some (.struct fs.toArray)) (hy : Ty P t z sz by_)
    (hpl : fs.map (fun f => (P.info? f.type).map (fun i => (f.offset, i.size))) = pl.map some) (hf : fillL (pl[·]?) z.cells.toList (parts.map fun p => (p.1, ev ρ p.2)) = some cells) :
    (execOp (ev ρ) ⟨d, .build t parts.toArray, ty, ps, af, g⟩).run P w = .ok (.value (.agg cells.toArray)) w := by
  have hz := hy
  refine x_build (places := pl.toArray) ht hy (fun w => ?_) ?_
  · clear hf ht
    rw [List.mapM_toArray]
    have : ∀ (fs : List Field) (pl : List (Nat × Nat)), fs.map (fun f => (P.info? f.type).map (fun i => (f.offset, i.size))) = pl.map some → (fs.mapM (fun (f : Field) => (do pure (f.offset, ← Go.sizeOf f.type) : Sem (Nat × Nat)))).run P w = .ok pl w := by
      intro fs
      induction fs with
      | nil => intro pl h; cases pl with
        | nil => simp [Sem.run_pure]
        | cons => simp at h
      | cons f fs ih =>
        intro pl h
        cases pl with
        | nil => simp at h
        | cons p pl =>
          simp only [List.map_cons, List.cons.injEq] at h
          obtain ⟨i, hi, he⟩ := Option.map_eq_some_iff.1 h.1
          have hs : (Go.sizeOf f.type).run P w = .ok i.size w := by
            have hb : Ty P f.type (i.zero.getD undef) i.size i.bytes ∨ True := .inr trivial
            simp [Go.sizeOf, typeInfo, Sem.run_bind, run_program, Result.andThen, hi, Sem.run_pure]
          simp only [List.mapM_cons, Sem.run_bind, hs, Result.andThen, Sem.run_pure, ih pl h.2, he]
    simp only [Sem.run_bind, Sem.run_map, this fs pl hpl, Result.andThen]
  · have h1 : (fun (x : Nat) => pl.toArray[x]?) = fun x => pl[x]? := funext fun x => by simp
    rw [h1, List.map_toArray, ← Array.toArray_toList (xs := z.cells), fill_fillL]
    simp only [hf, Option.map_some]
theorem Hd.starAt (A : List Hp) {p q : Hp} (H : Hd s w (A ++ (p :: q :: L))) : Hd s w (A ++ (KE.star p q :: L)) := by
  have h1 : (A ++ (p :: q :: L)).Perm (p :: q :: (A ++ L)) := List.perm_middle.trans (List.perm_middle.cons p)
  exact ((H.perm h1).star).perm List.perm_middle.symm
theorem Hd.unstarAt (A : List Hp) {p q : Hp} (H : Hd s w (A ++ (KE.star p q :: L))) : Hd s w (A ++ (p :: q :: L)) := by
  have h1 : (A ++ (p :: q :: L)).Perm (p :: q :: (A ++ L)) := List.perm_middle.trans (List.perm_middle.cons p)
  exact ((H.perm List.perm_middle).unstar).perm h1.symm
theorem Hd.swp {p q : Hp} (H : Hd s w (p :: q :: L)) : Hd s w (q :: p :: L) := H.perm (List.Perm.swap _ _ _)
theorem Hd.dropAt (A : List Hp) {p : Hp} (H : Hd s w (A ++ (p :: L))) : Hd s w (A ++ L) := (H.perm List.perm_middle).drop
theorem Hd.front (A : List Hp) {p : Hp} (H : Hd s w (A ++ (p :: L))) : Hd s w (p :: (A ++ L)) := H.perm List.perm_middle
theorem Hd.ins (A : List Hp) {p : Hp} (H : Hd s w (p :: (A ++ L))) : Hd s w (A ++ (p :: L)) := H.perm List.perm_middle.symm
theorem equal_bool {t : TypeId} {a b : Bool} (ht : P.underlying t = some .bool) : (Op.equal t (.bool a) (.bool b)).run P w = .ok (a == b) w := by
  have : ∀ n, (Op.equalIn (n + 1) t (.bool a) (.bool b)).run P w = .ok (a == b) w := fun n => by
    simp [Op.equalIn, Sem.run_bind, run_under ht, Result.andThen, Sem.run_pure]
  exact this 9999
theorem x_neqB {t t2 : TypeId} {x y : Operand} {a b : Bool} (ht : P.underlying t = some .bool) (hx : ev ρ x = .bool a) (hy : ev ρ y = .bool b) : (execOp (ev ρ) ⟨d, .binOp .neq t x y t2, ty, ps, af, g⟩).run P w = .ok (.value (.bool (decide (a ≠ b)))) w := by
  refine x_cmp hx hy (by simp [eqGuard, Sem.run_pure]) ?_
  simp [binOp, Sem.run_bind, equal_bool (P := P) (w := w) ht, Result.andThen, Sem.run_pure]
  cases a <;> cases b <;> rfl
theorem x_eqlB {t t2 : TypeId} {x y : Operand} {a b : Bool} (ht : P.underlying t = some .bool) (hx : ev ρ x = .bool a) (hy : ev ρ y = .bool b) : (execOp (ev ρ) ⟨d, .binOp .eql t x y t2, ty, ps, af, g⟩).run P w = .ok (.value (.bool (decide (a = b)))) w := by
  refine x_cmp hx hy (by simp [eqGuard, Sem.run_pure]) ?_
  simp [binOp, Sem.run_bind, equal_bool (P := P) (w := w) ht, Result.andThen, Sem.run_pure]
  cases a <;> cases b <;> rfl
theorem Hd.oldIn {w0 : World} (H : Hd s w L) (h : fr w0 ∈ L) : Old w0 w := by
  obtain ⟨i, hi⟩ := List.getElem?_of_mem h
  exact H.old i hi
/-- the list's front, put in another order, or some of it left out -/
theorem Hd.arrT (A : List Hp) (ix : List Nat) (hn : ix.Nodup) (hl : (ix.all fun i => Nat.blt i A.length) = true) (H : Hd s w (A ++ L)) : Hd s w (ix.map (fun i => A.getD i (fun _ => True)) ++ L) := by
  have hl : ∀ i ∈ ix, i < A.length := fun i hi => blt_lt (List.all_eq_true.1 hl i hi)
  have h1 : Hd s w (KE.sep L :: A) := (H.perm List.perm_append_comm).sep
  have h2 := h1.arr (0 :: ix.map (· + 1)) (by
    rw [List.nodup_cons]
    refine ⟨fun h => ?_, ?_⟩
    · obtain ⟨x, _, hx⟩ := List.mem_map.1 h; omega
    · rw [List.nodup_iff_pairwise_ne] at hn ⊢
      exact List.Pairwise.map _ (fun a b h => by omega) hn) (by
    intro i hi
    rcases List.mem_cons.1 hi with rfl | hi
    · simp
    · obtain ⟨x, hx, rfl⟩ := List.mem_map.1 hi
      have := hl x hx
      simp; omega)
  simp only [List.map_cons, List.map_map] at h2
  have h3 := h2.unsep
  exact h3.perm List.perm_append_comm
/-- a slice's spare places, taken as its own -/
theorem Hd.grow {a : Option Addr} {e : TypeId} {sz n c m : Nat} {cs : List Value} (H : Hd s w (Sl (.slice a n c) e sz n cs :: L)) (h0 : n ≤ m) (h1 : m ≤ c) (h2 : m ≤ 140737488355328) : ∃ cs', Hd s w (Sl (.slice a m c) e sz m cs' :: L) := by
  obtain ⟨h, hs, hL⟩ := H
  obtain ⟨h3, p, q, h4, h5, ⟨hl, hh⟩, h7⟩ := hL
  obtain ⟨hl, ⟨h8, h9⟩ | ⟨⟨g, o, c', all⟩, ⟨h8, h9, h10, h11⟩, h12⟩⟩ := (⟨hl, hh⟩ : Sl (.slice a n c) e sz n cs p)
  · cases h8
    have : m = 0 := by omega
    subst this
    exact ⟨[], h, hs, h3, p, q, h4, h5, ⟨⟨by simp, by omega⟩, .inl ⟨rfl, rfl⟩⟩, h7⟩
  · simp only [Value.slice.injEq] at h8
    obtain ⟨h8, -, h13⟩ := h8
    subst h13
    refine ⟨(all.toList.drop o).take (m * sz), h, hs, h3, p, q, h4, h5, ⟨⟨?_, h2⟩, .inr ⟨⟨g, o, c, all⟩, ⟨by rw [h8], h1, h10, ?_⟩, h12⟩⟩, h7⟩
    · rw [List.length_take, List.length_drop]
      have := Nat.mul_le_mul_right sz h1
      simp only at h10
      simp
      omega
    · intro j u hj
      rw [List.getElem?_take] at hj
      split at hj
      · simpa using hj
      · cases hj
theorem Hd.cap {a : Option Addr} {e : TypeId} {sz n c : Nat} {cs : List Value} (H : Hd s w L) (i : Nat) (hi : L[i]? = some (Sl (.slice a n c) e sz n cs)) : n ≤ c ∧ (a = none → c = 0) := by
  obtain ⟨h, _, hl, ⟨h8, h9⟩ | ⟨⟨g, o, c', all⟩, ⟨h8, h9, h10, h11⟩, h12⟩⟩ := H.fact_at i hi
  · cases h8; exact ⟨Nat.le_refl _, fun _ => rfl⟩
  · simp only [Value.slice.injEq] at h8
    obtain ⟨h8, -, rfl⟩ := h8
    exact ⟨h9, fun h => by rw [h] at h8; cases h8⟩
end
end KE
