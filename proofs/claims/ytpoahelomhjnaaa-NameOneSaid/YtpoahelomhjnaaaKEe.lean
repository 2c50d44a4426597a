/-
  The engine of this proof, for any program: slices, append. No condition.
-/
import Derived.Test.YtpoahelomhjnaaaKEd
import Derived.Laws.CopyRow
set_option linter.unusedVariables false
set_option linter.unusedSimpArgs false
namespace KE
open Go Go.RowKit

theorem Hd.opn {s : Sy} {w : World} {L : List Hp} {p : Hp} {α : Type} {φ : α → Prop} {q : α → Hp} (H : Hd s w (p :: L)) (h : ∀ x, p x → ∃ a, φ a ∧ q a x) : ∃ a, φ a ∧ Hd s w (q a :: L) := by
  obtain ⟨h0, x, hs, a, b, h1, h2, h3, h4⟩ := H
  obtain ⟨c, hc, hq⟩ := h a h3
  exact ⟨c, hc, h0, x, hs, a, b, h1, h2, hq, h4⟩
theorem Hd.back {s : Sy} {w : World} {L : List Hp} {p q : Hp} {i : Nat} (hi : L[i]? = some p) (H : Hd s w (q :: L.eraseIdx i)) : Hd s w (L.set i q) := H.perm (eraseIdx_set_perm q hi)

/-! ### slices -/
/-- cells that are read -/
def RdC (w : World) (v : Value) (sz n : Nat) (cs : List Value) : Prop :=
  (cs.length = n * sz ∧ n ≤ 140737488355328) ∧ ((n = 0 ∧ ∃ a c, v = .slice a 0 c) ∨ ∃ b o c, v = .slice (some ⟨b, o, none⟩) n c ∧ ∀ j u, cs[j]? = some u → w.cell? ⟨b, o + j, none⟩ = some u)
/-- a slice of one's own: the whole block is owned -/
def SlB (v : Value) (e : TypeId) (sz n : Nat) (cs : List Value) (q : Nat × Nat × Nat × Array Value) : Prop :=
  v = .slice (some ⟨q.1, q.2.1, none⟩) n q.2.2.1 ∧ n ≤ q.2.2.1 ∧ q.2.1 + q.2.2.1 * sz ≤ q.2.2.2.size ∧ ∀ j u, cs[j]? = some u → q.2.2.2[q.2.1 + j]? = some u
def Sl (v : Value) (e : TypeId) (sz n : Nat) (cs : List Value) : Hp := fun h =>
  (cs.length = n * sz ∧ n ≤ 140737488355328) ∧ ((v = .slice none 0 0 ∧ n = 0) ∨ ∃ q, SlB v e sz n cs q ∧ pt q.1 (.cells q.2.2.2 e (0, 0)) h)
theorem Sl.nil (e : TypeId) (sz : Nat) (h : Nat → Option Obj) : Sl (.slice none 0 0) e sz 0 [] h := ⟨⟨by simp, by omega⟩, .inl ⟨rfl, rfl⟩⟩
theorem Hd.nil {s : Sy} {w : World} {L : List Hp} (H : Hd s w L) (e : TypeId) (sz : Nat) : Hd s w (Sl (.slice none 0 0) e sz 0 [] :: L) := by
  obtain ⟨h0, h, hs, hL⟩ := H
  refine ⟨h0, h, hs, fun _ => none, h, fun _ => .inl rfl, ?_, Sl.nil e sz _, hL⟩
  funext i; simp [hor]
theorem Sl.rd {w : World} {h : Nat → Option Obj} {v : Value} {e : TypeId} {sz n : Nat} {cs : List Value} (hs : hsub h w) (k : Sl v e sz n cs h) : RdC w v sz n cs := by
  obtain ⟨hl, ⟨rfl, rfl⟩ | ⟨⟨g, o, c, all⟩, ⟨rfl, hn, hc, hr⟩, hp⟩⟩ := k
  · exact ⟨hl, .inl ⟨rfl, none, 0, rfl⟩⟩
  · exact ⟨hl, .inr ⟨g, o, c, rfl, fun j u hj => cell_of (hs _ _ hp) (hr j u hj)⟩⟩
theorem Hd.sl {s : Sy} {w : World} {L : List Hp} (H : Hd s w L) {v : Value} {e : TypeId} {sz n : Nat} {cs : List Value} (i : Nat) (hi : L[i]? = some (Sl v e sz n cs)) : RdC w v sz n cs := by
  obtain ⟨h, h1, h2⟩ := H.fact_at i hi
  exact Sl.rd h1 h2
theorem RdC.ext {w w' : World} {v : Value} {sz n : Nat} {cs : List Value} (h : RdC w v sz n cs) (e : Ext w w') : RdC w' v sz n cs := by
  obtain ⟨h1, h2 | ⟨b, o, c, h2, h3⟩⟩ := h
  · exact ⟨h1, .inl h2⟩
  · exact ⟨h1, .inr ⟨b, o, c, h2, fun j u hj => (e.cell (World.block_lt_of_cell? w _ (h3 j u hj))).trans (h3 j u hj)⟩⟩
theorem RdC.shape {w : World} {v : Value} {sz n : Nat} {cs : List Value} (h : RdC w v sz n cs) : ∃ a c, v = .slice a n c := by
  obtain ⟨h1, ⟨rfl, a, c, h2⟩ | ⟨b, o, c, h2, h3⟩⟩ := h
  · exact ⟨a, c, h2⟩
  · exact ⟨_, c, h2⟩
/-- an element's place -/
theorem RdC.at_ {w : World} {v : Value} {sz n : Nat} {cs : List Value} (h : RdC w v sz n cs) {i : Nat} (hi : i < n) : ∃ b o c, v = .slice (some ⟨b, o, none⟩) n c ∧ ∀ j u, j < sz → cs[i * sz + j]? = some u → w.cell? ⟨b, o + i * sz + j, none⟩ = some u := by
  obtain ⟨h1, ⟨rfl, a, c, h2⟩ | ⟨b, o, c, h2, h3⟩⟩ := h
  · omega
  · exact ⟨b, o, c, h2, fun j u _ hu => by rw [Nat.add_assoc]; exact h3 _ u hu⟩
theorem Sl.form {v : Value} {e : TypeId} {sz n : Nat} {cs : List Value} {h : Nat → Option Obj} (k : Sl v e sz n cs h) : ∃ a c, v = .slice a n c := by
  obtain ⟨hl, ⟨rfl, rfl⟩ | ⟨⟨g, o, c, all⟩, ⟨rfl, hn, hc, hr⟩, hp⟩⟩ := k
  · exact ⟨none, 0, rfl⟩
  · exact ⟨_, c, rfl⟩

section
variable {P : Program} {w : World} {s : Sy} {L : List Hp}
/-- append to a slice of one's own -/
theorem run_append {t e ty : TypeId} {z : Value} {sz by_ : Nat} (ht : P.underlying t = some (.slice e)) (hy : Ty P e z sz by_) (hzs : z.cells.size = sz) (hsz : 0 < sz) (hby : 0 < by_)
    (H : Hd s w L) (i : Nat) {v x : Value} {n m : Nat} {cs news : List Value} (hi : L[i]? = some (Sl v e sz n cs)) (hx : RdC w x sz m news) (h1 : ∀ u ∈ news, oneC u = true) (hb : (n + m) * by_ ≤ 140737488355328) :
    ∃ v' w', (Builtin.append_ #[t, t] ty #[v, x]).run P w = .ok v' w' ∧ Hd s w' (L.set i (Sl v' e sz (n + m) (cs ++ news))) ∧ w.heap.size ≤ w'.heap.size := by
  obtain ⟨inf, hinf, hz, hsize, hbytes⟩ := hy
  have hnm : n + m ≤ 140737488355328 := Nat.le_trans (Nat.le_mul_of_pos_right _ hby) hb
  obtain ⟨hd0, ⟨⟨hxl, _⟩, hx⟩⟩ := And.intro trivial hx
  have H1 := H.pick i hi
  obtain ⟨⟨hl, hnb⟩, H1⟩ := Hd.unand H1
  have grown : ∀ (old : Nat), old < n + m → Hd s (w.drew.alloc (.cells (cs.toArray ++ news.toArray ++ Builtin.zeroCells z.cells (grownCap w (n + m) old e - (n + m))) e)) (L.set i (Sl (.slice (some ⟨w.heap.size, 0, none⟩) (n + m) (grownCap w (n + m) old e)) e sz (n + m) (cs ++ news))) := by
    intro old ho
    have hge := grownCap_ge w (n + m) old e
    refine Hd.back hi (Hd.weak ((H1.drop.drew).alloc _) fun h hp => ⟨⟨by rw [List.length_append, hl, hxl, Nat.add_mul], hnm⟩, .inr ⟨(w.heap.size, 0, _, _), ⟨rfl, hge, ?_, ?_⟩, hp⟩⟩)
    · simp only [Array.size_append, List.size_toArray, size_zeroCells, hzs, hl, hxl, Nat.zero_add]
      rw [← Nat.add_mul, ← Nat.add_mul]
      have e1 : n + m + (grownCap w (n + m) old e - (n + m)) = grownCap w (n + m) old e := by generalize grownCap w (n + m) old e = G at hge; omega
      rw [e1]; exact Nat.le_refl _
    · intro j u hj
      simp only [Nat.zero_add]
      have hlt : j < (cs ++ news).length := (List.getElem?_eq_some_iff.1 hj).1
      rw [Array.getElem?_append_left (by simpa using hlt)]
      simpa using hj
  -- nothing to append
  by_cases hm : m = 0
  · subst hm
    have hnews : news = [] := List.eq_nil_of_length_eq_zero (by simpa using hxl)
    subst hnews
    have hxs : ∃ a c, x = .slice a 0 c := by
      rcases hx with ⟨_, h⟩ | ⟨b, o, c, h, _⟩
      · exact h
      · exact ⟨_, c, h⟩
    obtain ⟨a, c, rfl⟩ := hxs
    have hfc : (Builtin.firstCells inf.size 0 (.slice a 0 c)).run P w = .ok #[] w := by
      cases a <;> simp [Builtin.firstCells, loadCells, loadCellsFrom, Sem.run_pure]
    refine ⟨v, w, ?_, ?_, Nat.le_refl _⟩
    · obtain ⟨h, hs, hk⟩ := H.fact_at i hi
      obtain ⟨_, ⟨rfl, rfl⟩ | ⟨⟨g, o, cp, all⟩, ⟨rfl, hn, hc, hr⟩, hp⟩⟩ := hk
      · simp [Builtin.append_, run_under ht, Go.sizeOf, typeInfo, hinf, Builtin.lenOf, hfc, Sem.run_bind, Result.andThen, Sem.run_pure, run_program]
      · have hn' : n ≤ cp := hn
        simp [Builtin.append_, run_under ht, Go.sizeOf, typeInfo, hinf, Builtin.lenOf, hfc, Sem.run_bind, Result.andThen, Sem.run_pure, run_program, hn', storeCells]
    · have : L.set i (Sl v e sz (n + 0) (cs ++ [])) = L := by
        rw [List.append_nil, Nat.add_zero]
        apply List.ext_getElem?
        intro k
        rw [List.getElem?_set]
        split
        · rename_i hik; subst hik
          obtain ⟨hlt, _⟩ := List.getElem?_eq_some_iff.1 hi
          rw [if_pos hlt, hi]
        · rfl
      rw [this]; exact H
  · rcases hx with ⟨h0, _⟩ | ⟨b, o, c, rfl, hr⟩
    · omega
    have hnews : ∀ j u, news[j]? = some u → w.cell? ((⟨b, o, none⟩ : Addr).add j) = some u := fun j u hj => by rw [add_plain]; exact hr j u hj
    obtain ⟨h, hs, hk⟩ := H.fact_at i hi
    obtain ⟨_, ⟨rfl, rfl⟩ | ⟨⟨g, o2, cp, all⟩, ⟨rfl, hn, hc, hr2⟩, hp⟩⟩ := hk
    · have hcs : cs = [] := List.eq_nil_of_length_eq_zero (by simpa using hl)
      subst hcs
      have hrun := run_append_nil (P := P) w t ty e inf z ht hinf hz ⟨b, o, none⟩ m c news (by rw [hxl, hsize]) hnews (by omega) (by omega) (by rw [hbytes]; simp only [Nat.zero_add] at hb; omega)
      have hg := grown 0 (by omega)
      simp only [Nat.zero_add, List.nil_append, Array.empty_append] at hg
      exact ⟨_, _, hrun, by simpa using hg, by simp⟩
    · have hn' : n ≤ cp := hn
      have hheap : w.heap[g]? = some (.cells all e (0, 0)) := hs _ _ hp
      by_cases hroom : n + m ≤ cp
      · have hf := run_firstCells_some (P := P) w inf.size m ⟨b, o, none⟩ m c news (by rw [hxl, hsize]) hnews
        have hfit : o2 + n * sz + 0 + news.length ≤ all.size := by
          have h1 : o2 + cp * sz ≤ all.size := hc
          have h2 : (n + m) * sz ≤ cp * sz := Nat.mul_le_mul_right _ hroom
          rw [hxl]; rw [Nat.add_mul] at h2; omega
        have hst := run_storeCells_at P g (o2 + n * sz) e news 0 all w hheap hfit h1
        simp only [Nat.add_zero, List.append_assoc] at hst
        rw [hsize] at hf
        refine ⟨.slice (some ⟨g, o2, none⟩) (n + m) cp, w.setRow g (all.toList.take (o2 + n * sz) ++ news ++ all.toList.drop (o2 + n * sz + news.length)).toArray, ?_, ?_, by simp [World.setRow]⟩
        · simp [Builtin.append_, run_under ht, Go.sizeOf, typeInfo, hinf, Builtin.lenOf, hroom, hf, add_plain, hsize, hst, Sem.run_bind, Result.andThen, Sem.run_pure, run_program]
        · have H2 : Hd s w (pt g (.cells all e (0, 0)) :: L.eraseIdx i) := by
            obtain ⟨q, ⟨hq1, hq2⟩, H2⟩ := Hd.opn (φ := fun q => SlB (.slice (some ⟨g, o2, none⟩) n cp) e sz n cs q ∧ True) (q := fun q => pt q.1 (.cells q.2.2.2 e (0, 0))) H1 (by
              rintro x (⟨h1, _⟩ | ⟨q, h1, h2⟩)
              · cases h1
              · exact ⟨q, ⟨h1, trivial⟩, h2⟩)
            obtain ⟨g', o', c', all'⟩ := q
            have e1 : g' = g := by have := hq1.1; simp at this; exact this.1.1.symm
            subst e1
            have hh := H2.obj 0 rfl
            rw [hheap] at hh
            have e2 : all = all' := by injection hh with hh; injection hh
            subst e2
            exact H2
          have H3 := Hd.change (w' := w.setRow g (all.toList.take (o2 + n * sz) ++ news ++ all.toList.drop (o2 + n * sz + news.length)).toArray) H2 0 rfl (setRow_heap w g all _ e (0, 0) hheap) (fun k hk => setRow_other w g k _ hk) ⟨rfl, rfl, rfl⟩
          refine Hd.back hi (Hd.weak H3 fun h hp => ⟨⟨by rw [List.length_append, hl, hxl, Nat.add_mul], hnm⟩, .inr ⟨(g, o2, cp, _), ⟨rfl, hroom, ?_, ?_⟩, hp⟩⟩)
          · have h1 : o2 + cp * sz ≤ all.size := hc
            simp only [List.size_toArray, List.length_append, List.length_take, List.length_drop, Array.length_toList]
            omega
          · intro j u hj
            have h1 : o2 + cp * sz ≤ all.size := hc
            have h2 : (n + m) * sz ≤ cp * sz := Nat.mul_le_mul_right _ hroom
            rw [Nat.add_mul] at h2
            simp only [List.getElem?_toArray]
            have htl : (all.toList.take (o2 + n * sz)).length = o2 + n * sz := by rw [List.length_take, Array.length_toList]; omega
            by_cases hj2 : j < cs.length
            · rw [List.append_assoc, List.getElem?_append_left (by rw [htl, ← hl]; omega), List.getElem?_take_of_lt (by rw [← hl]; omega)]
              rw [List.getElem?_append_left hj2] at hj
              have := hr2 j u hj
              simpa using this
            · rw [List.getElem?_append_right (by omega)] at hj
              have hlt : j - cs.length < news.length := (List.getElem?_eq_some_iff.1 hj).1
              rw [List.getElem?_append_left (by rw [List.length_append, htl]; rw [hl] at hlt hj2; omega), List.getElem?_append_right (by rw [htl]; rw [hl] at hj2; omega), htl]
              rw [show o2 + j - (o2 + n * sz) = j - cs.length from by rw [hl]; omega]
              exact hj
      · have holds : ∀ j u, cs[j]? = some u → w.cell? ((⟨g, o2, none⟩ : Addr).add j) = some u := fun j u hj => by rw [add_plain]; exact cell_of hheap (hr2 j u hj)
        have hrun := run_append_grow (P := P) w t ty e inf z ht hinf hz ⟨g, o2, none⟩ n cp cs (by rw [hl, hsize]) holds ⟨b, o, none⟩ m c news (by rw [hxl, hsize]) hnews (by omega) (by omega) (growslice_fits (by omega) (by rw [hbytes]; exact hb))
        exact ⟨_, _, hrun, grown cp (by omega), by simp⟩
end
end KE
