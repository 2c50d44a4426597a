/-
  The engine of this proof, for any program: rules for walks, memory in parts, operations. No condition.
-/
import Derived.Test.YteibnmkikdbndaaGreatDoorE1
import Derived.Laws.CopyRow
import Derived.KernelRfl
import Derived.Scope
set_option linter.unusedVariables false
set_option linter.unusedSimpArgs false
namespace KE
open Go Go.RowKit
theorem Hd.opn {s : Sy} {w : World} {L : List Hp} {p : Hp} {α : Type} {φ : α → Prop} {q : α → Hp} (H : Hd s w (p :: L)) (h : ∀ x, p x → ∃ a, φ a ∧ q a x) : ∃ a, φ a ∧ Hd s w (q a :: L) := by
  obtain ⟨h0, x, hs, a, b, h1, h2, h3, h4⟩ := H
  obtain ⟨c, hc, hq⟩ := h a h3
  exact ⟨c, hc, h0, x, hs, a, b, h1, h2, hq, h4⟩
theorem Hd.back {s : Sy} {w : World} {L : List Hp} {p q : Hp} {i : Nat} (hi : L[i]? = some p) (H : Hd s w (q :: L.eraseIdx i)) : Hd s w (L.set i q) := H.perm (eraseIdx_set_perm q hi)
/-! ### slices -/
/-- cells that are read -/
def RdC (w : World) (v : Value) (sz n : Nat) (cs : List Value) : Prop :=
  (cs.length = n * sz ∧ n ≤ 140737488355328) ∧ ((n = 0 ∧ ∃ a c, v = .slice a 0 c) ∨ ∃ b o c, v = .slice (some ⟨b, o, none⟩) n c ∧ ∀ j u, cs[j]? = some u → w.cell? ⟨b, o + j, none⟩ = some u)
/-- a slice of one's own: the whole block is owned -/
def SlB (v : Value) (e : TypeId) (sz n : Nat) (cs : List Value) (q : Nat × Nat × Nat × Array Value) : Prop :=
  v = .slice (some ⟨q.1, q.2.1, none⟩) n q.2.2.1 ∧ n ≤ q.2.2.1 ∧ q.2.1 + q.2.2.1 * sz ≤ q.2.2.2.size ∧ ∀ j u, cs[j]? = some u → q.2.2.2[q.2.1 + j]? = some u
def Sl (v : Value) (e : TypeId) (sz n : Nat) (cs : List Value) : Hp := fun h =>
  (cs.length = n * sz ∧ n ≤ 140737488355328) ∧ ((v = .slice none 0 0 ∧ n = 0) ∨ ∃ q, SlB v e sz n cs q ∧ pt q.1 (.cells q.2.2.2 e (0, 0)) h)
theorem Sl.nil (e : TypeId) (sz : Nat) (h : Nat → Option Obj) : Sl (.slice none 0 0) e sz 0 [] h := ⟨⟨by simp, by omega⟩, .inl ⟨rfl, rfl⟩⟩
theorem Hd.nil {s : Sy} {w : World} {L : List Hp} (H : Hd s w L) (e : TypeId) (sz : Nat) : Hd s w (Sl (.slice none 0 0) e sz 0 [] :: L) := by
  obtain ⟨h0, h, hs, hL⟩ := H
  refine ⟨h0, h, hs, fun _ => none, h, fun _ => .inl rfl, ?_, Sl.nil e sz _, hL⟩
  funext i; simp [hor]
theorem Sl.rd {w : World} {h : Nat → Option Obj} {v : Value} {e : TypeId} {sz n : Nat} {cs : List Value} (hs : hsub h w) (k : Sl v e sz n cs h) : RdC w v sz n cs := by
  obtain ⟨hl, ⟨rfl, rfl⟩ | ⟨⟨g, o, c, all⟩, ⟨rfl, hn, hc, hr⟩, hp⟩⟩ := k
  · exact ⟨hl, .inl ⟨rfl, none, 0, rfl⟩⟩
  · exact ⟨hl, .inr ⟨g, o, c, rfl, fun j u hj => cell_of (hs _ _ hp) (hr j u hj)⟩⟩
theorem Hd.sl {s : Sy} {w : World} {L : List Hp} (H : Hd s w L) {v : Value} {e : TypeId} {sz n : Nat} {cs : List Value} (i : Nat) (hi : L[i]? = some (Sl v e sz n cs)) : RdC w v sz n cs := by
  obtain ⟨h, h1, h2⟩ := H.fact_at i hi
  exact Sl.rd h1 h2
theorem RdC.ext {w w' : World} {v : Value} {sz n : Nat} {cs : List Value} (h : RdC w v sz n cs) (e : Ext w w') : RdC w' v sz n cs := by
  obtain ⟨h1, h2 | ⟨b, o, c, h2, h3⟩⟩ := h
  · exact ⟨h1, .inl h2⟩
  · exact ⟨h1, .inr ⟨b, o, c, h2, fun j u hj => (e.cell (World.block_lt_of_cell? w _ (h3 j u hj))).trans (h3 j u hj)⟩⟩
theorem RdC.shape {w : World} {v : Value} {sz n : Nat} {cs : List Value} (h : RdC w v sz n cs) : ∃ a c, v = .slice a n c := by
  obtain ⟨h1, ⟨rfl, a, c, h2⟩ | ⟨b, o, c, h2, h3⟩⟩ := h
  · exact ⟨a, c, h2⟩
  · exact ⟨_, c, h2⟩
/-- an element's place -/
theorem RdC.at_ {w : World} {v : Value} {sz n : Nat} {cs : List Value} (h : RdC w v sz n cs) {i : Nat} (hi : i < n) : ∃ b o c, v = .slice (some ⟨b, o, none⟩) n c ∧ ∀ j u, j < sz → cs[i * sz + j]? = some u → w.cell? ⟨b, o + i * sz + j, none⟩ = some u := by
  obtain ⟨h1, ⟨rfl, a, c, h2⟩ | ⟨b, o, c, h2, h3⟩⟩ := h
  · omega
  · exact ⟨b, o, c, h2, fun j u _ hu => by rw [Nat.add_assoc]; exact h3 _ u hu⟩
theorem Sl.form {v : Value} {e : TypeId} {sz n : Nat} {cs : List Value} {h : Nat → Option Obj} (k : Sl v e sz n cs h) : ∃ a c, v = .slice a n c := by
  obtain ⟨hl, ⟨rfl, rfl⟩ | ⟨⟨g, o, c, all⟩, ⟨rfl, hn, hc, hr⟩, hp⟩⟩ := k
  · exact ⟨none, 0, rfl⟩
  · exact ⟨_, c, rfl⟩
section
variable {P : Program} {w : World} {s : Sy} {L : List Hp}
/-- append to a slice of one's own -/
theorem run_append {t e ty : TypeId} {z : Value} {sz by_ : Nat} (ht : P.underlying t = some (.slice e)) (hy : Ty P e z sz by_) (hzs : z.cells.size = sz) (hsz : 0 < sz) (hby : 0 < by_)
    (H : Hd s w L) (i : Nat) {v x : Value} {n m : Nat} {cs news : List Value} (hi : L[i]? = some (Sl v e sz n cs)) (hx : RdC w x sz m news) (h1 : ∀ u ∈ news, oneC u = true) (hb : (n + m) * by_ ≤ 140737488355328) :
    ∃ v' w', (Builtin.append_ #[t, t] ty #[v, x]).run P w = .ok v' w' ∧ Hd s w' (L.set i (Sl v' e sz (n + m) (cs ++ news))) ∧ w.heap.size ≤ w'.heap.size := by
  obtain ⟨inf, hinf, hz, hsize, hbytes⟩ := hy
  have hnm : n + m ≤ 140737488355328 := Nat.le_trans (Nat.le_mul_of_pos_right _ hby) hb
  obtain ⟨hd0, ⟨⟨hxl, _⟩, hx⟩⟩ := And.intro trivial hx
  have H1 := H.pick i hi
  obtain ⟨⟨hl, hnb⟩, H1⟩ := Hd.unand H1
  have grown : ∀ (old : Nat), old < n + m → Hd s (w.drew.alloc (.cells (cs.toArray ++ news.toArray ++ Builtin.zeroCells z.cells (grownCap w (n + m) old e - (n + m))) e)) (L.set i (Sl (.slice (some ⟨w.heap.size, 0, none⟩) (n + m) (grownCap w (n + m) old e)) e sz (n + m) (cs ++ news))) := by
    intro old ho
    have hge := grownCap_ge w (n + m) old e
    refine Hd.back hi (Hd.weak ((H1.drop.drew).alloc _) fun h hp => ⟨⟨by rw [List.length_append, hl, hxl, Nat.add_mul], hnm⟩, .inr ⟨(w.heap.size, 0, _, _), ⟨rfl, hge, ?_, ?_⟩, hp⟩⟩)
    · simp only [Array.size_append, List.size_toArray, size_zeroCells, hzs, hl, hxl, Nat.zero_add]
      rw [← Nat.add_mul, ← Nat.add_mul]
      have e1 : n + m + (grownCap w (n + m) old e - (n + m)) = grownCap w (n + m) old e := by generalize grownCap w (n + m) old e = G at hge; omega
      rw [e1]; exact Nat.le_refl _
    · intro j u hj
      simp only [Nat.zero_add]
      have hlt : j < (cs ++ news).length := (List.getElem?_eq_some_iff.1 hj).1
      rw [Array.getElem?_append_left (by simpa using hlt)]
      simpa using hj
  -- nothing to append
  by_cases hm : m = 0
  · subst hm
    have hnews : news = [] := List.eq_nil_of_length_eq_zero (by simpa using hxl)
    subst hnews
    have hxs : ∃ a c, x = .slice a 0 c := by
      rcases hx with ⟨_, h⟩ | ⟨b, o, c, h, _⟩
      · exact h
      · exact ⟨_, c, h⟩
    obtain ⟨a, c, rfl⟩ := hxs
    have hfc : (Builtin.firstCells inf.size 0 (.slice a 0 c)).run P w = .ok #[] w := by
      cases a <;> simp [Builtin.firstCells, loadCells, loadCellsFrom, Sem.run_pure]
    refine ⟨v, w, ?_, ?_, Nat.le_refl _⟩
    · obtain ⟨h, hs, hk⟩ := H.fact_at i hi
      obtain ⟨_, ⟨rfl, rfl⟩ | ⟨⟨g, o, cp, all⟩, ⟨rfl, hn, hc, hr⟩, hp⟩⟩ := hk
      · simp [Builtin.append_, run_under ht, Go.sizeOf, typeInfo, hinf, Builtin.lenOf, hfc, Sem.run_bind, Result.andThen, Sem.run_pure, run_program]
      · have hn' : n ≤ cp := hn
        simp [Builtin.append_, run_under ht, Go.sizeOf, typeInfo, hinf, Builtin.lenOf, hfc, Sem.run_bind, Result.andThen, Sem.run_pure, run_program, hn', storeCells]
    · have : L.set i (Sl v e sz (n + 0) (cs ++ [])) = L := by
        rw [List.append_nil, Nat.add_zero]
        apply List.ext_getElem?
        intro k
        rw [List.getElem?_set]
        split
        · rename_i hik; subst hik
          obtain ⟨hlt, _⟩ := List.getElem?_eq_some_iff.1 hi
          rw [if_pos hlt, hi]
        · rfl
      rw [this]; exact H
  · rcases hx with ⟨h0, _⟩ | ⟨b, o, c, rfl, hr⟩
    · omega
    have hnews : ∀ j u, news[j]? = some u → w.cell? ((⟨b, o, none⟩ : Addr).add j) = some u := fun j u hj => by rw [add_plain]; exact hr j u hj
    obtain ⟨h, hs, hk⟩ := H.fact_at i hi
    obtain ⟨_, ⟨rfl, rfl⟩ | ⟨⟨g, o2, cp, all⟩, ⟨rfl, hn, hc, hr2⟩, hp⟩⟩ := hk
    · have hcs : cs = [] := List.eq_nil_of_length_eq_zero (by simpa using hl)
      subst hcs
      have hrun := run_append_nil (P := P) w t ty e inf z ht hinf hz ⟨b, o, none⟩ m c news (by rw [hxl, hsize]) hnews (by omega) (by omega) (by rw [hbytes]; simp only [Nat.zero_add] at hb; omega)
      have hg := grown 0 (by omega)
      simp only [Nat.zero_add, List.nil_append, Array.empty_append] at hg
      exact ⟨_, _, hrun, by simpa using hg, by simp⟩
    · have hn' : n ≤ cp := hn
      have hheap : w.heap[g]? = some (.cells all e (0, 0)) := hs _ _ hp
      by_cases hroom : n + m ≤ cp
      · have hf := run_firstCells_some (P := P) w inf.size m ⟨b, o, none⟩ m c news (by rw [hxl, hsize]) hnews
        have hfit : o2 + n * sz + 0 + news.length ≤ all.size := by
          have h1 : o2 + cp * sz ≤ all.size := hc
          have h2 : (n + m) * sz ≤ cp * sz := Nat.mul_le_mul_right _ hroom
          rw [hxl]; rw [Nat.add_mul] at h2; omega
        have hst := run_storeCells_at P g (o2 + n * sz) e news 0 all w hheap hfit h1
        simp only [Nat.add_zero, List.append_assoc] at hst
        rw [hsize] at hf
        refine ⟨.slice (some ⟨g, o2, none⟩) (n + m) cp, w.setRow g (all.toList.take (o2 + n * sz) ++ news ++ all.toList.drop (o2 + n * sz + news.length)).toArray, ?_, ?_, by simp [World.setRow]⟩
        · simp [Builtin.append_, run_under ht, Go.sizeOf, typeInfo, hinf, Builtin.lenOf, hroom, hf, add_plain, hsize, hst, Sem.run_bind, Result.andThen, Sem.run_pure, run_program]
        · have H2 : Hd s w (pt g (.cells all e (0, 0)) :: L.eraseIdx i) := by
            obtain ⟨q, ⟨hq1, hq2⟩, H2⟩ := Hd.opn (φ := fun q => SlB (.slice (some ⟨g, o2, none⟩) n cp) e sz n cs q ∧ True) (q := fun q => pt q.1 (.cells q.2.2.2 e (0, 0))) H1 (by
              rintro x (⟨h1, _⟩ | ⟨q, h1, h2⟩)
              · cases h1
              · exact ⟨q, ⟨h1, trivial⟩, h2⟩)
            obtain ⟨g', o', c', all'⟩ := q
            have e1 : g' = g := by have := hq1.1; simp at this; exact this.1.1.symm
            subst e1
            have hh := H2.obj 0 rfl
            rw [hheap] at hh
            have e2 : all = all' := by injection hh with hh; injection hh
            subst e2
            exact H2
          have H3 := Hd.change (w' := w.setRow g (all.toList.take (o2 + n * sz) ++ news ++ all.toList.drop (o2 + n * sz + news.length)).toArray) H2 0 rfl (setRow_heap w g all _ e (0, 0) hheap) (fun k hk => setRow_other w g k _ hk) ⟨rfl, rfl, rfl, rfl⟩
          refine Hd.back hi (Hd.weak H3 fun h hp => ⟨⟨by rw [List.length_append, hl, hxl, Nat.add_mul], hnm⟩, .inr ⟨(g, o2, cp, _), ⟨rfl, hroom, ?_, ?_⟩, hp⟩⟩)
          · have h1 : o2 + cp * sz ≤ all.size := hc
            simp only [List.size_toArray, List.length_append, List.length_take, List.length_drop, Array.length_toList]
            omega
          · intro j u hj
            have h1 : o2 + cp * sz ≤ all.size := hc
            have h2 : (n + m) * sz ≤ cp * sz := Nat.mul_le_mul_right _ hroom
            rw [Nat.add_mul] at h2
            simp only [List.getElem?_toArray]
            have htl : (all.toList.take (o2 + n * sz)).length = o2 + n * sz := by rw [List.length_take, Array.length_toList]; omega
            by_cases hj2 : j < cs.length
            · rw [List.append_assoc, List.getElem?_append_left (by rw [htl, ← hl]; omega), List.getElem?_take_of_lt (by rw [← hl]; omega)]
              rw [List.getElem?_append_left hj2] at hj
              have := hr2 j u hj
              simpa using this
            · rw [List.getElem?_append_right (by omega)] at hj
              have hlt : j - cs.length < news.length := (List.getElem?_eq_some_iff.1 hj).1
              rw [List.getElem?_append_left (by rw [List.length_append, htl]; rw [hl] at hlt hj2; omega), List.getElem?_append_right (by rw [htl]; rw [hl] at hj2; omega), htl]
              rw [show o2 + j - (o2 + n * sz) = j - cs.length from by rw [hl]; omega]
              exact hj
      · have holds : ∀ j u, cs[j]? = some u → w.cell? ((⟨g, o2, none⟩ : Addr).add j) = some u := fun j u hj => by rw [add_plain]; exact cell_of hheap (hr2 j u hj)
        have hrun := run_append_grow (P := P) w t ty e inf z ht hinf hz ⟨g, o2, none⟩ n cp cs (by rw [hl, hsize]) holds ⟨b, o, none⟩ m c news (by rw [hxl, hsize]) hnews (by omega) (by omega) (growslice_fits (by omega) (by rw [hbytes]; exact hb))
        exact ⟨_, _, hrun, grown cp (by omega), by simp⟩
end
section
variable {P : Program} {r : Option Nat} {N : Nat} {Q : QE} {ρ : Nat → Value} {ds : List Nat} {w : World} {ops : Array Oper} {rest : List Oper} {o : Oper} {v : Value}
theorem WL.rd (hg : o.guard = none) (hd : okD N o.dst = true) (hp : plainOp o = true) (hx : (execOp (ev ρ) o).run P w = .ok (.value v) w) (k : WL P r N ops Q rest (updO ρ o.dst v) ds w) : WL P r N ops Q (o :: rest) ρ ds w := by
  refine WL.st hg hd ⟨?_, ?_⟩
  · cases ho : o.op <;> simp_all [plainOp]
  · rw [hx]; exact k
theorem RS.of (hg : o.guard = none) (hp : plainOp o = true) (hx : (execOp (ev ρ) o).run P w = .ok (.value v) w) : RS P ops o ρ w v := ⟨hp, .inl ⟨by simp [Region.wanted, hg], hx⟩⟩
theorem RS.no (hp : plainOp o = true) (hw : Region.wanted o (yieldE ops ρ) = false) : RS P ops o ρ w undef := ⟨hp, .inr ⟨hw, rfl⟩⟩
theorem RS.yes (hp : plainOp o = true) (hw : Region.wanted o (yieldE ops ρ) = true) (hx : (execOp (ev ρ) o).run P w = .ok (.value v) w) : RS P ops o ρ w v := ⟨hp, .inl ⟨hw, hx⟩⟩
theorem WK.rd {eff : List Nat} {bef : List (List Nat)} {i : Nat} {can pend : List Nat} (ho : ops[i]? = some o) (he : eff.contains i = false) (hs : RS P ops o ρ w v) (k : WK P r N ops eff bef Q can (i :: pend) (updO ρ o.dst v) ds w) : WK P r N ops eff bef Q (i :: can) pend ρ ds w := by
  unfold WK
  rw [ho]
  simp only [he, cond_false]
  exact ⟨v, hs, k⟩
theorem WK.ef {eff : List Nat} {bef : List (List Nat)} {i : Nat} {can pend : List Nat} (ho : ops[i]? = some o) (he : eff.contains i = true) (hw : Region.wanted o (yieldE ops ρ) = true)
    (k : St P o ρ w fun v w' => Stab P ops (bef.getD i []) pend (updO ρ o.dst v) w' ∧ WK P r N ops eff bef Q can pend (updO ρ o.dst v) ds w') : WK P r N ops eff bef Q (i :: can) pend ρ ds w := by
  unfold WK
  rw [ho]
  simp only [he, cond_true]
  exact .inl ⟨hw, k⟩
theorem WK.un {eff : List Nat} {bef : List (List Nat)} {i : Nat} {can pend : List Nat} (ho : ops[i]? = some o) (he : eff.contains i = true) (hw : Region.wanted o (yieldE ops ρ) = false)
    (hs : Stab P ops (bef.getD i []) pend (updO ρ o.dst undef) w) (k : WK P r N ops eff bef Q can pend (updO ρ o.dst undef) ds w) : WK P r N ops eff bef Q (i :: can) pend ρ ds w := by
  unfold WK
  rw [ho]
  simp only [he, cond_true]
  exact .inr ⟨hw, hs, k⟩
end
section
variable {P : Program} {w : World} {ρ : Nat → Value} {d : Option Tmp} {ty : TypeId} {ps : String} {af : Array Edge} {g : Option (Nat × Bool)} {s : Sy} {L : List Hp} {K : Value → World → Prop}
theorem s_alloc {t : TypeId} {z : Value} {sz by_ : Nat} (hy : Ty P t z sz by_) (H : Hd s w L) (k : ∀ b w', Hd s w' (pt b (.cells z.cells t) :: L) → K (.pointer (some ⟨b, 0, none⟩)) w') : St P ⟨d, .alloc t, ty, ps, af, g⟩ ρ w K := by
  refine ⟨trivial, ?_⟩
  have : (execOp (ev ρ) ⟨d, .alloc t, ty, ps, af, g⟩).run P w = .ok (.value (.pointer (some ⟨w.heap.size, 0, none⟩))) (w.alloc (.cells z.cells t)) := by
    simp [execOp, Instr.alloc, Sem.run_bind, hy.zero, newVar, newRow, Result.andThen, Sem.run_pure]
  rw [this]; exact k _ _ (H.alloc _)
theorem s_box {t : TypeId} {x : Operand} {v : Value} (hx : ev ρ x = v) (H : Hd s w L) (k : ∀ b w', Hd s w' (pt b (.cells v.cells t) :: L) → K (.pointer (some ⟨b, 0, none⟩)) w') : St P ⟨d, .box t x, ty, ps, af, g⟩ ρ w K := by
  refine ⟨trivial, ?_⟩
  have : (execOp (ev ρ) ⟨d, .box t x, ty, ps, af, g⟩).run P w = .ok (.value (.pointer (some ⟨w.heap.size, 0, none⟩))) (w.alloc (.cells v.cells t)) := by
    simp [execOp, Instr.box, Sem.run_bind, newVar, newRow, Result.andThen, Sem.run_pure, hx]
  rw [this]; exact k _ _ (H.alloc _)
theorem s_makeMap {t : TypeId} (H : Hd s w L) (k : ∀ b w', Hd s w' (pt b (.map #[] 0) :: L) → K (.map (some b)) w') : St P ⟨d, .makeMap t none, ty, ps, af, g⟩ ρ w K := by
  refine ⟨trivial, ?_⟩
  have : (execOp (ev ρ) ⟨d, .makeMap t none, ty, ps, af, g⟩).run P w = .ok (.value (.map (some w.heap.size))) (w.alloc (.map #[] 0)) := by
    simp [execOp, Instr.makeMap, Sem.run_bind, Result.andThen, Sem.run_pure]
  rw [this]; exact k _ _ (H.alloc _)
theorem s_store {t : TypeId} {a x : Operand} {b off : Nat} {cs : Array Value} {t0 : TypeId} {z v : Value} {by_ : Nat} (i : Nat) (hi : L[i]? = some (pt b (.cells cs t0 (0, 0)))) (hy : Ty P t z 1 by_) (ha : ev ρ a = .pointer (some ⟨b, off, none⟩)) (hx : ev ρ x = v) (h1 : oneC v = true) (hoff : off < cs.size)
    (H : Hd s w L) (k : ∀ w', Hd s w' (L.set i (pt b (.cells (cs.setIfInBounds off v) t0))) → K undef w') : St P ⟨d, .store t a x, ty, ps, af, g⟩ ρ w K := by
  refine ⟨trivial, ?_⟩
  have hcell := H.cell (off := off) i hi (Array.getElem?_eq_getElem hoff)
  have hfree : w.frozen? ⟨b, off, none⟩ = false := free_of (H.obj i hi)
  have hcs : v.cells = #[v] := by cases v <;> first | rfl | (simp [Value.oneCell'] at h1)
  have : (execOp (ev ρ) ⟨d, .store t a x, ty, ps, af, g⟩).run P w = .ok .skip (w.setCell ⟨b, off, none⟩ v) := by
    have hst := run_store (P := P) hcell hfree h1
    simp [execOp, Instr.storeAt, Instr.sureAddr, ha, hx, Sem.run_bind, Result.andThen, Sem.run_pure, storeVar, hy.size, hcs, storeCells, add_plain, hst]
  rw [this]; exact k _ (H.setCell i hi v)
/-- a struct is stored whole -/
theorem s_storeA {t : TypeId} {a x : Operand} {b off : Nat} {cs : Array Value} {t0 : TypeId} {z : Value} {vs : List Value} {sz by_ : Nat} (i : Nat) (hi : L[i]? = some (pt b (.cells cs t0 (0, 0)))) (hy : Ty P t z sz by_) (ha : ev ρ a = .pointer (some ⟨b, off, none⟩)) (hx : ev ρ x = .agg vs.toArray) (hn : vs.length = sz) (h1 : ∀ v ∈ vs, oneC v = true) (hoff : off + sz ≤ cs.size)
    (H : Hd s w L) (k : ∀ w', Hd s w' (L.set i (pt b (.cells (cs.toList.take off ++ vs ++ cs.toList.drop (off + vs.length)).toArray t0))) → K undef w') : St P ⟨d, .store t a x, ty, ps, af, g⟩ ρ w K := by
  refine ⟨trivial, ?_⟩
  have hst := run_storeCells_at P b off t0 vs 0 cs w (H.obj i hi) (by rw [hn]; omega) h1
  simp only [Nat.add_zero] at hst
  have : (execOp (ev ρ) ⟨d, .store t a x, ty, ps, af, g⟩).run P w = .ok .skip (w.setRow b (cs.toList.take off ++ vs ++ cs.toList.drop (off + vs.length)).toArray) := by
    simp [execOp, Instr.storeAt, Instr.sureAddr, ha, hx, Sem.run_bind, Result.andThen, Sem.run_pure, storeVar, hy.size, Value.cells, hn, hst] at *
  rw [this]
  exact k _ (H.change i hi (setRow_heap w b cs _ t0 (0, 0) (H.obj i hi)) (fun k hk => setRow_other w b k _ hk) ⟨rfl, rfl, rfl, rfl⟩)
theorem s_buildSlice {t e : TypeId} {n : Nat} {parts : Array (Nat × Operand)} {z : Value} {sz by_ : Nat} {cells : Array Value} (ht : P.underlying t = some (.slice e)) (hy : Ty P e z sz by_) (hn : n * sz ≠ 0) (hn2 : n * sz ≤ 16777216)
    (hp : Instr.fill (fun i => some (i * sz, sz)) ((Array.range (n * sz)).map (z.cells[· % z.cells.size]!)) (parts.map fun (i, x) => (i, ev ρ x)).toList = some cells) (hc : cells.size = n * sz)
    (H : Hd s w L) (k : ∀ b w', Hd s w' (Sl (.slice (some ⟨b, 0, none⟩) n n) e sz n cells.toList :: L) → K (.slice (some ⟨b, 0, none⟩) n n) w') : St P ⟨d, .buildSlice t n parts, ty, ps, af, g⟩ ρ w K := by
  refine ⟨trivial, ?_⟩
  have : (execOp (ev ρ) ⟨d, .buildSlice t n parts, ty, ps, af, g⟩).run P w = .ok (.value (.slice (some ⟨w.heap.size, 0, none⟩) n n)) (w.alloc (.cells cells e)) := by
    have e1 : ¬ (2 ^ 24 < n * sz) := by omega
    simp only [execOp, Instr.buildSlice, Sem.run_bind, run_under ht, Result.andThen, Sem.run_pure, hy.size]
    rw [if_neg (by omega), if_neg hn]
    simp only [Sem.run_bind, hy.zero, Result.andThen, Sem.run_pure]
    rw [hp]
    simp [newRow, Sem.run_bind, Result.andThen, Sem.run_pure]
  rw [this]
  refine k _ _ (Hd.weak (H.alloc _) fun h hp => ⟨⟨by simp [hc], by have := Nat.le_of_dvd (Nat.pos_of_ne_zero hn) (Nat.dvd_mul_right n sz); omega⟩, .inr ⟨(w.heap.size, 0, n, cells), ⟨rfl, Nat.le_refl _, by simp [hc], ?_⟩, hp⟩⟩)
  intro j u hj
  simpa using hj
theorem s_append {t e : TypeId} {a x : Operand} {z : Value} {sz by_ : Nat} {ats : Array TypeId} (ht : P.underlying t = some (.slice e)) (hy : Ty P e z sz by_) (hzs : z.cells.size = sz) (hsz : 0 < sz) (hby : 0 < by_) (hats : ats = #[t, t])
    (i : Nat) {v y : Value} {n m : Nat} {cs news : List Value} (hi : L[i]? = some (Sl v e sz n cs)) (ha : ev ρ a = v) (hxe : ev ρ x = y) (hx : RdC w y sz m news) (h1 : ∀ u ∈ news, oneC u = true) (hb : (n + m) * by_ ≤ 140737488355328)
    (H : Hd s w L) (k : ∀ v' w', Hd s w' (L.set i (Sl v' e sz (n + m) (cs ++ news))) → K v' w') : St P ⟨d, .call { callee := .builtin .append, args := #[a, x], argTypes := ats }, ty, ps, af, g⟩ ρ w K := by
  subst hats
  obtain ⟨v', w', hrun, H', _⟩ := run_append (ty := ty) ht hy hzs hsz hby H i hi hx h1 hb
  refine ⟨trivial, ?_⟩
  have : (execOp (ev ρ) ⟨d, .call { callee := .builtin .append, args := #[a, x], argTypes := #[t, t] }, ty, ps, af, g⟩).run P w = .ok (.value v') w' := by
    simp [execOp, resolve, invoke, builtin, ha, hxe, hrun, Sem.run_bind, Result.andThen, Sem.run_pure]
  rw [this]
  exact k _ _ H'
/-! calls -/
def Cal (P : Program) (f : FuncId) : Prop := ∃ fn, P.funcs[f]? = some fn ∧ fn.body.isNone = false ∧ (fn.name == "runtime.NumGoroutine") = false
theorem run_callFunc {f : FuncId} {args : Array Value} (h : Cal P f) : (callFunc f args).run P w = .ok (.enter f args) w := by
  obtain ⟨fn, h1, h2, h3⟩ := h
  simp only [callFunc, Sem.run_bind, run_program, Result.andThen, h1, h2, h3, Bool.false_eq_true, if_false, Sem.run_pure]
theorem s_call {f : FuncId} {args : Array Operand} {ats : Array TypeId} {R : Value → World → Prop} (hc : Cal P f) (h : CC P f (args.map (ev ρ)) w R) (k : ∀ v w', R v w' → K v w') : St P ⟨d, .call { callee := .value (.func f), args := args, argTypes := ats }, ty, ps, af, g⟩ ρ w K := by
  refine ⟨trivial, ?_⟩
  have : (execOp (ev ρ) ⟨d, .call { callee := .value (.func f), args := args, argTypes := ats }, ty, ps, af, g⟩).run P w = .ok (.enter f (args.map (ev ρ))) w := by
    simp [execOp, resolve, Deferred.ofValue, ev, invoke, Sem.run_bind, Result.andThen, Sem.run_pure, run_callFunc hc]
  rw [this]
  exact h.mono k
/-- a call of a function value -/
theorem s_callv {x : Operand} {f : FuncId} {args : Array Operand} {ats : Array TypeId} {c1 c2 : Array Value} {R : Value → World → Prop} (hx : ev ρ x = .func (.func f) c1 c2) (hc : Cal P f) (h : CC P f (c1 ++ args.map (ev ρ) ++ c2) w R) (k : ∀ v w', R v w' → K v w') : St P ⟨d, .call { callee := .value x, args := args, argTypes := ats }, ty, ps, af, g⟩ ρ w K := by
  refine ⟨trivial, ?_⟩
  have : (execOp (ev ρ) ⟨d, .call { callee := .value x, args := args, argTypes := ats }, ty, ps, af, g⟩).run P w = .ok (.enter f (c1 ++ args.map (ev ρ) ++ c2)) w := by
    simp [execOp, resolve, Deferred.ofValue, hx, invoke, Sem.run_bind, Result.andThen, Sem.run_pure, run_callFunc hc]
  rw [this]
  exact h.mono k
theorem s_yield {x : Operand} {l : Nat} {args : Array Operand} {ats : Array TypeId} {R : Value → World → Prop} (hx : ev ρ x = .func (.yield l) #[] #[]) (h : YY P l (args.map (ev ρ)) w R) (k : ∀ v w', R v w' → K v w') : St P ⟨d, .call { callee := .value x, args := args, argTypes := ats }, ty, ps, af, g⟩ ρ w K := by
  refine ⟨trivial, ?_⟩
  obtain ⟨fn, tmps, asg, body, h1, h2⟩ := h
  have : (execOp (ev ρ) ⟨d, .call { callee := .value x, args := args, argTypes := ats }, ty, ps, af, g⟩).run P w = .ok (.round l fn tmps asg body) w := by
    simp [execOp, resolve, Deferred.ofValue, hx, invoke, Sem.run_bind, Result.andThen, Sem.run_pure, h1]
  rw [this]
  exact RoundIn.mono h2 fun e w' ⟨v, e1, r⟩ => ⟨v, e1, k _ _ r⟩
end
/-! ### maps -/
theorem ba_beq (a b : ByteArray) : (a == b) = decide (a = b) := by
  have e : (a == b) = (a.data == b.data) := by cases a; cases b; rfl
  rw [e]
  by_cases h : a = b
  · subst h; simp
  · rw [decide_eq_false h]
    cases e : (a.data == b.data) with
    | false => rfl
    | true => exact absurd (ByteArray.ext (by simpa using e)) h
theorem sb_str (n : Nat) (a : ByteArray) : Instr.sameBits n (.string a) (.string a) = true := by
  cases n <;> simp only [Instr.sameBits, ba_beq, decide_true]
theorem sb_int (n : Nat) (k : IntKind) (a : Int) : Instr.sameBits n (.int k a) (.int k a) = true := by
  cases n <;> simp [Instr.sameBits]
theorem ck_str {P : Program} {kt : TypeId} (h : P.underlying kt = some .string) (n : Nat) (e : Bool) (a : ByteArray) (w : World) : (Instr.checkKey e (n + 1) kt (.string a)).run P w = .ok () w := by
  simp only [Instr.checkKey, Sem.run_bind, run_under h, Result.andThen, Sem.run_pure]
theorem ck_int {P : Program} {kt : TypeId} {k : IntKind} (h : P.underlying kt = some (.int k)) (n : Nat) (e : Bool) (a : Int) (w : World) : (Instr.checkKey e (n + 1) kt (.int k a)).run P w = .ok () w := by
  simp only [Instr.checkKey, Sem.run_bind, run_under h, Result.andThen, Sem.run_pure]
section
variable {κ : Type} [DecidableEq κ]
/-- the entries of a map, in the order in which they lie -/
def MV (kv : κ → Value) (es : Array MapEntry) (l : List (κ × Value)) : Prop := es.toList.map (fun e => (e.key, e.val)) = l.map fun p => (kv p.1, p.2)
def Stamps (es : Array MapEntry) (cl : Nat) : Prop := (es.toList.map (·.born)).Nodup ∧ ∀ e ∈ es.toList, e.born < cl
def alook (k : κ) : List (κ × Value) → Option Value
  | [] => none
  | p :: l => if k = p.1 then some p.2 else alook k l
def aset (k : κ) (v : Value) : List (κ × Value) → List (κ × Value)
  | [] => [(k, v)]
  | p :: l => if k = p.1 then (k, v) :: l else p :: aset k v l
def adel (k : κ) : List (κ × Value) → List (κ × Value)
  | [] => []
  | p :: l => if k = p.1 then l else p :: adel k l
def aidx (k : κ) : List (κ × Value) → Nat → Option (Nat × Value)
  | [], _ => none
  | p :: l, i => if k = p.1 then some (i, p.2) else aidx k l (i + 1)
end
structure KT (P : Program) (kt : TypeId) (κ : Type) [DecidableEq κ] where
  kv : κ → Value
  find : ∀ (es : List MapEntry) (l : List (κ × Value)) (k : κ) (w : World), es.map (fun e => (e.key, e.val)) = l.map (fun p => (kv p.1, p.2)) → (Instr.findKey kt (kv k) es).run P w = .ok (aidx k l 0) w
  bits : ∀ a, Instr.sameBits 10000 (kv a) (kv a) = true
  chk : ∀ (e : Bool) (a : κ) (w : World), (Instr.checkKey e 10000 kt (kv a)).run P w = .ok () w
section
variable {κ : Type} [DecidableEq κ] {P : Program} {kt : TypeId}
theorem findNow_aidx {kv : κ → Value} {kd : TypeDesc} (same : ∀ a b, Instr.sameNow kd (kv a) (kv b) = some (decide (a = b))) (k : κ) : ∀ (es : List MapEntry) (l : List (κ × Value)) (i : Nat), es.map (fun e => (e.key, e.val)) = l.map (fun p => (kv p.1, p.2)) → Instr.findNow kd (kv k) es i = some (aidx k l i)
  | [], [], i, _ => rfl
  | [], _ :: _, i, h => by simp at h
  | _ :: _, [], i, h => by simp at h
  | e :: es, p :: l, i, h => by
    simp only [List.map_cons, List.cons.injEq, Prod.mk.injEq] at h
    obtain ⟨⟨h1, h2⟩, h3⟩ := h
    simp only [Instr.findNow, h1, same]
    by_cases hk : k = p.1
    · simp [hk, aidx, h2]
    · simp only [hk, decide_false, aidx, if_false]
      exact findNow_aidx same k es l (i + 1) h3
theorem find_now {kv : κ → Value} {kd : TypeDesc} (und : P.underlying kt = some kd) (same : ∀ a b, Instr.sameNow kd (kv a) (kv b) = some (decide (a = b))) (es : List MapEntry) (l : List (κ × Value)) (k : κ) (w : World)
    (h : es.map (fun e => (e.key, e.val)) = l.map (fun p => (kv p.1, p.2))) : (Instr.findKey kt (kv k) es).run P w = .ok (aidx k l 0) w := by
  simp [Instr.findKey, Sem.run_bind, run_under und, Result.andThen, findNow_aidx same k es l 0 h, Sem.run_pure]
theorem asking_aidx {kv : κ → Value} (heq : ∀ a b (w : World), (Op.equal kt (kv a) (kv b)).run P w = .ok (decide (a = b)) w) (k : κ) (w : World) : ∀ (es : List MapEntry) (l : List (κ × Value)) (i : Nat), es.map (fun e => (e.key, e.val)) = l.map (fun p => (kv p.1, p.2)) →
    (Instr.findAsking kt (kv k) es i).run P w = .ok (aidx k l i) w
  | [], [], i, _ => rfl
  | [], _ :: _, i, h => by simp at h
  | _ :: _, [], i, h => by simp at h
  | e :: es, p :: l, i, h => by
    simp only [List.map_cons, List.cons.injEq, Prod.mk.injEq] at h
    obtain ⟨⟨h1, h2⟩, h3⟩ := h
    simp only [Instr.findAsking, Sem.run_bind, h1, heq, Result.andThen]
    by_cases hk : k = p.1
    · simp [hk, aidx, h2, Sem.run_pure]
    · simp only [hk, decide_false, aidx, if_false]
      exact asking_aidx heq k w es l (i + 1) h3
/-- keys that are structs -/
def ktP (kv : κ → Value) {fs : Array Field} (und : P.underlying kt = some (.struct fs)) (heq : ∀ a b (w : World), (Op.equal kt (kv a) (kv b)).run P w = .ok (decide (a = b)) w)
    (hagg : ∀ a, ∃ cs, kv a = .agg cs) (bits : ∀ a, Instr.sameBits 10000 (kv a) (kv a) = true) (chk : ∀ (e : Bool) (a : κ) (w : World), (Instr.checkKey e 10000 kt (kv a)).run P w = .ok () w) : KT P kt κ where
  kv := kv
  find := fun es l k w h => by
    have h2 := asking_aidx heq k w es l 0 h
    cases es with
    | nil => cases l with
      | nil => simp [Instr.findKey, Sem.run_bind, run_under und, Result.andThen, Instr.findNow, Sem.run_pure, aidx]
      | cons p l => simp at h
    | cons e es =>
      have hs : ∀ x, Instr.sameNow (.struct fs) (kv k) x = none := fun x => by
        obtain ⟨cs, hc⟩ := hagg k
        rw [hc]; rfl
      simp only [Instr.findKey, Sem.run_bind, run_under und, Result.andThen, Instr.findNow, hs]
      exact h2
  bits := bits
  chk := chk
end
def ktS (P : Program) (kt : TypeId) (h : P.underlying kt = some .string) : KT P kt ByteArray where
  kv := .string
  find := find_now h fun a b => by
    simp only [Instr.sameNow, ba_beq]
  bits := fun a => sb_str _ a
  chk := fun e a w => ck_str h 9999 e a w
def ktI (P : Program) (kt : TypeId) (k : IntKind) (h : P.underlying kt = some (.int k)) : KT P kt Int where
  kv := .int k
  find := find_now h fun a b => by
    simp only [Instr.sameNow, if_true]
    congr 1
  bits := fun a => sb_int _ k a
  chk := fun e a w => ck_int h 9999 e a w
section
variable {κ : Type} [DecidableEq κ]
def Mp {P : Program} {kt : TypeId} (T : KT P kt κ) (b : Nat) (l : List (κ × Value)) : Hp := fun h => ∃ q : Array MapEntry × Nat, (MV T.kv q.1 l ∧ Stamps q.1 q.2) ∧ pt b (.map q.1 q.2) h
variable {P : Program} {kt : TypeId} {T : KT P kt κ} {w : World}
theorem run_findKey {es : Array MapEntry} {l : List (κ × Value)} (h : MV T.kv es l) (k : κ) : (Instr.findKey kt (T.kv k) es.toList).run P w = .ok (aidx k l 0) w := T.find es.toList l k w h
theorem aidx_alook (k : κ) : ∀ (l : List (κ × Value)) (i : Nat), (aidx k l i).map (·.2) = alook k l
  | [], _ => rfl
  | p :: l, i => by
    simp only [aidx, alook]
    split
    · rfl
    · exact aidx_alook k l (i + 1)
theorem aidx_some {k : κ} : ∀ {l : List (κ × Value)} {i j : Nat} {v : Value}, aidx k l i = some (j, v) → i ≤ j ∧ l[j - i]? = some (k, v) ∧ (∀ v', l.set (j - i) (k, v') = aset k v' l) ∧ l.eraseIdx (j - i) = adel k l
  | [], i, j, v, h => by simp [aidx] at h
  | p :: l, i, j, v, h => by
    simp only [aidx] at h
    split at h
    · rename_i hk
      cases h
      refine ⟨Nat.le_refl _, by simp [hk], fun v' => by simp [aset, hk], by simp [adel, hk]⟩
    · rename_i hk
      obtain ⟨h1, h2, h3, h4⟩ := aidx_some h
      have e : j - i = (j - (i + 1)) + 1 := by omega
      refine ⟨by omega, by rw [e]; simpa using h2, fun v' => by rw [e]; simp [aset, hk, h3], by rw [e]; simp [adel, hk, h4]⟩
theorem aidx_none {k : κ} : ∀ {l : List (κ × Value)} {i : Nat}, aidx k l i = none → alook k l = none ∧ (∀ v, aset k v l = l ++ [(k, v)]) ∧ adel k l = l
  | [], _, _ => ⟨rfl, fun _ => rfl, rfl⟩
  | p :: l, i, h => by
    simp only [aidx] at h
    split at h
    · cases h
    · rename_i hk
      obtain ⟨h1, h2, h3⟩ := aidx_none h
      exact ⟨by simp [alook, hk, h1], fun v => by simp [aset, hk, h2], by simp [adel, hk, h3]⟩
/-- what a look-up answers -/
def lkV (c : Bool) (z : Value) : Option Value → Value
  | some v => bif c then .tuple #[v, .bool true] else v
  | none => bif c then .tuple #[z, .bool false] else z
variable {ρ : Nat → Value} {d : Option Tmp} {ty : TypeId} {ps : String} {af : Array Edge} {g : Option (Nat × Bool)} {s : Sy} {L : List Hp} {K : Value → World → Prop}
theorem x_lookup {t et : TypeId} {x y : Operand} {m : Nat} {es : Array MapEntry} {cl : Nat} {l : List (κ × Value)} {k : κ} {z : Value} {sz by_ : Nat} {c : Bool} (T : KT P kt κ) (ht : P.underlying t = some (.map kt et)) (hy : Ty P et z sz by_) (hx : ev ρ x = .map (some m)) (hk : ev ρ y = T.kv k) (hm : w.heap[m]? = some (.map es cl)) (hv : MV T.kv es l) :
    (execOp (ev ρ) ⟨d, .lookup t x y c, ty, ps, af, g⟩).run P w = .ok (.value (lkV c z (alook k l))) w := by
  simp only [execOp, Instr.lookup, Sem.run_bind, run_under ht, Result.andThen, hx, hk]
  simp only [getObj, Sem.run, hm, Sem.run_bind, Result.andThen, Sem.run_pure, T.chk, run_findKey (T := T) hv k]
  rw [← aidx_alook k l 0]
  cases aidx k l 0 with
  | none => cases c <;> simp [Sem.run_bind, hy.zero, Result.andThen, Sem.run_pure, lkV]
  | some p => cases c <;> simp [Sem.run_bind, Result.andThen, Sem.run_pure, lkV]
theorem x_lookupNil {t et : TypeId} {x y : Operand} {k : κ} {z : Value} {sz by_ : Nat} {c : Bool} (T : KT P kt κ) (ht : P.underlying t = some (.map kt et)) (hy : Ty P et z sz by_) (hx : ev ρ x = .map none) (hk : ev ρ y = T.kv k) :
    (execOp (ev ρ) ⟨d, .lookup t x y c, ty, ps, af, g⟩).run P w = .ok (.value (lkV c z none)) w := by
  simp only [execOp, Instr.lookup, Sem.run_bind, run_under ht, Result.andThen, hx, hk, Sem.run_pure, T.chk]
  have := run_findKey (P := P) (w := w) (T := T) (es := #[]) (l := []) rfl k
  simp only [this, aidx]
  cases c <;> simp [Sem.run_bind, hy.zero, Result.andThen, Sem.run_pure, lkV]
theorem Mp.obj {b : Nat} {l : List (κ × Value)} (T : KT P kt κ) (H : Hd s w L) (i : Nat) (hi : L[i]? = some (Mp T b l)) : ∃ es cl, w.heap[b]? = some (.map es cl) ∧ MV T.kv es l := by
  obtain ⟨h, h1, ⟨es, cl⟩, h2, h3⟩ := H.fact_at i hi
  exact ⟨es, cl, h1 _ _ h3, h2.1⟩
omit [DecidableEq κ] in
theorem MV.size {kv : κ → Value} {es : Array MapEntry} {l : List (κ × Value)} (h : MV kv es l) : es.size = l.length := by
  have := congrArg List.length h
  simpa using this
theorem Mp.made {b : Nat} (T : KT P kt κ) : ∀ h, pt b (.map #[] 0) h → Mp T b [] h := fun h hp => ⟨(#[], 0), ⟨rfl, by simp [Stamps]⟩, hp⟩
theorem s_mapUpdate {t et : TypeId} {x y u : Operand} {b : Nat} {l : List (κ × Value)} {k : κ} {v : Value} (T : KT P kt κ) (ht : P.underlying t = some (.map kt et)) (i : Nat) (hi : L[i]? = some (Mp T b l)) (hx : ev ρ x = .map (some b)) (hk : ev ρ y = T.kv k) (hu : ev ρ u = v)
    (H : Hd s w L) (kk : ∀ w', Hd s w' (L.set i (Mp T b (aset k v l))) → K undef w') : St P ⟨d, .mapUpdate t x y u, ty, ps, af, g⟩ ρ w K := by
  refine ⟨trivial, ?_⟩
  obtain ⟨⟨es, cl⟩, ⟨hv, hs⟩, H1⟩ := Hd.opn (φ := fun q : Array MapEntry × Nat => MV T.kv q.1 l ∧ Stamps q.1 q.2) (q := fun q => pt b (.map q.1 q.2)) (H.pick i hi) (fun x hx => hx)
  have hm := H1.obj 0 rfl
  cases hf : aidx k l 0 with
  | none =>
    obtain ⟨h1, h2, h3⟩ := aidx_none hf
    have : (execOp (ev ρ) ⟨d, .mapUpdate t x y u, ty, ps, af, g⟩).run P w = .ok .skip (w.putObj b (.map (es.push { key := T.kv k, val := v, born := cl }) (cl + 1))) := by
      simp only [execOp, Instr.mapUpdate, Sem.run_bind, run_under ht, Result.andThen, hx, hk, hu]
      simp only [getObj, Sem.run, hm, Sem.run_bind, Result.andThen, Sem.run_pure, T.chk, run_findKey (T := T) hv k, hf]
      simp [setObj, Sem.run, hm, World.putObj, Result.andThen, Sem.run_pure]
    rw [this]
    refine kk _ (Hd.back hi (Hd.weak (H1.putObj 0 rfl _) fun h hp => ⟨(es.push ⟨T.kv k, v, cl⟩, cl + 1), ⟨?_, ?_, ?_⟩, hp⟩))
    · show List.map _ (es.push _).toList = _
      rw [h2, List.map_append, Array.toList_push, List.map_append, show es.toList.map (fun e => (e.key, e.val)) = _ from hv]; rfl
    · show (List.map _ (es.push _).toList).Nodup
      rw [Array.toList_push, List.map_append]
      refine List.nodup_append.2 ⟨hs.1, by simp, ?_⟩
      intro a ha c hc e
      simp at hc; subst hc; subst e
      obtain ⟨e, he, h5⟩ := List.mem_map.1 ha
      have := hs.2 e he
      omega
    · show ∀ e ∈ (es.push ⟨T.kv k, v, cl⟩).toList, e.born < cl + 1
      intro e he
      rw [Array.toList_push] at he
      rcases List.mem_append.1 he with he | he
      · have := hs.2 e he; omega
      · simp at he; subst he; simp
  | some jv =>
    obtain ⟨j, v0⟩ := jv
    obtain ⟨_, h2, h3, h4⟩ := aidx_some hf
    simp only [Nat.sub_zero] at h2 h3 h4
    have hsz := MV.size hv
    have hj : j < es.size := by rw [hsz]; exact (List.getElem?_eq_some_iff.1 h2).1
    have hkey : (es[j]).key = T.kv k ∧ (es[j]).val = v0 := by
      have e1 : (es.toList.map (fun e => (e.key, e.val)))[j]? = (l.map fun p => (T.kv p.1, p.2))[j]? := by rw [show es.toList.map (fun e => (e.key, e.val)) = _ from hv]
      rw [List.getElem?_map, List.getElem?_map, h2, Array.getElem?_toList, Array.getElem?_eq_getElem hj] at e1
      simpa using e1
    have hst : (Instr.keyThatStays (T.kv k) (T.kv k)).run P w = .ok (T.kv k) w := by
      simp [Instr.keyThatStays, T.bits, Sem.run_pure]
    have hrun : (execOp (ev ρ) ⟨d, .mapUpdate t x y u, ty, ps, af, g⟩).run P w = .ok .skip (w.putObj b (.map (es.modify j fun e => { e with key := T.kv k, val := v }) cl)) := by
      simp only [execOp, Instr.mapUpdate, Sem.run_bind, run_under ht, Result.andThen, hx, hk, hu]
      simp only [getObj, Sem.run, hm, Sem.run_bind, Result.andThen, Sem.run_pure, T.chk, run_findKey (T := T) hv k, hf]
      rw [Array.getElem?_eq_getElem hj]
      simp only [Option.map_some, Option.getD_some, hkey.1, hst]
      simp [setObj, Sem.run, hm, World.putObj, Result.andThen, Sem.run_pure]
    rw [hrun]
    have hml : (es.modify j fun e => { e with key := T.kv k, val := v }).toList = es.toList.set j { es[j] with key := T.kv k, val := v } := by
      apply List.ext_getElem?
      intro q
      rw [Array.getElem?_toList, Array.getElem?_modify, List.getElem?_set, Array.getElem?_toList]
      by_cases e : j = q
      · subst e; simp [hj]
      · simp [e]
    refine kk _ (Hd.back hi (Hd.weak (H1.putObj 0 rfl _) fun h hp => ⟨(es.modify j fun e => { e with key := T.kv k, val := v }, cl), ⟨?_, ?_, ?_⟩, hp⟩))
    · show List.map _ (es.modify j _).toList = _
      rw [hml, List.map_set, ← h3, List.map_set, show es.toList.map (fun e => (e.key, e.val)) = _ from hv]
    · have : (es.toList.set j { es[j] with key := T.kv k, val := v }).map (·.born) = es.toList.map (·.born) := by
        rw [List.map_set]
        apply List.ext_getElem?
        intro q
        rw [List.getElem?_set]
        split
        · rename_i e; subst e; simp [hj]
        · rfl
      show (List.map _ (es.modify j fun e => { e with key := T.kv k, val := v }).toList).Nodup
      rw [hml, this]; exact hs.1
    · show ∀ e ∈ (es.modify j fun e => { e with key := T.kv k, val := v }).toList, e.born < cl
      intro e he
      rw [hml] at he
      rcases List.mem_or_eq_of_mem_set he with he | rfl
      · exact hs.2 e he
      · exact hs.2 es[j] (by simp)
end
/-! ### a range over a function -/
def setP (ρ : Nat → Value) (ps : List Tmp) (vs : List Value) : Nat → Value := (ps.zip vs).foldl (fun ρ p => upd ρ p.1 p.2) ρ
/-- what yield promises to an iterator that tells xs: E x vs: the values vs stand for the element x, with what they own -/
def YS {α : Type} (P : Program) (s : Sy) (l : Nat) (E : α → List Value → Hp) (xs : List α) (J X : List α → Hp) : Prop :=
  ∀ pre x rest vs w L', xs = pre ++ x :: rest → Hd s w (J pre :: E x vs :: L') →
    YY P l vs.toArray w fun v w' => (v = .bool true ∧ Hd s w' (J (pre ++ [x]) :: L')) ∨ (v = .bool false ∧ Hd s w' (X (pre ++ [x]) :: L'))
/-- an iterator: function f, with what it has captured; A: what it needs, B: what it leaves -/
def IT {α : Type} (P : Program) (s : Sy) (f : FuncId) (caps : List Value) (E : α → List Value → Hp) (xs : List α) (A : Hp) (B : List α → Hp) : Prop :=
  ∀ l J X w L, YS P s l E xs J X → Hd s w (J [] :: A :: L) → CC P f (.func (.yield l) #[] #[] :: caps).toArray w fun _ w' =>
    Hd s w' (J xs :: B xs :: L) ∨ ∃ pre x rest, xs = pre ++ x :: rest ∧ Hd s w' (X (pre ++ [x]) :: B (pre ++ [x]) :: L)
/-- the loop's record -/
def LR (N : Nat) (ρ : Nat → Value) (ps : Array Tmp) (asg body : Code) (l : Nat) (st : LoopState) (pd : Option Code) : Hp := fun h =>
  ∃ rec : Loop, (rec.state = st ∧ rec.pending = pd ∧ rec.params = ps ∧ rec.assign = asg ∧ rec.body = body ∧ rec.tmps.size = N ∧ ∀ k, rec.tmps.getD k undef = ρ k) ∧ pt l (.loop rec) h
def roundE (s : Sy) (I : Hp) (X : Code → Hp) (L : List Hp) : QE
  | .normal, _, _, w => Hd s w (I :: L)
  | .ret, _, _, w => Hd s w (X .ret :: L)
  | .exit id, _, _, w => Hd s w (X (.exit id) :: L)
  | .goto t, _, _, w => Hd s w (X (.goto t) :: L)
  | _, _, _, _ => False
def noE (K : (Nat → Value) → List Nat → World → Prop) : QE
  | .normal => K
  | _ => fun _ _ _ => False
theorem setP_fits {N : Nat} : ∀ (ps : List Tmp) (vs : List Value) (ρ : Nat → Value) (tmps : Array Value), (∀ p ∈ ps, p < N) → tmps.size = N → (∀ k, tmps.getD k undef = ρ k) →
    ((ps.zip vs).foldl (fun t (p : Tmp × Value) => t.setIfInBounds p.1 p.2) tmps).size = N ∧ ∀ k, ((ps.zip vs).foldl (fun t (p : Tmp × Value) => t.setIfInBounds p.1 p.2) tmps).getD k undef = setP ρ ps vs k
  | [], vs, ρ, tmps, _, h1, h2 => ⟨h1, h2⟩
  | p :: ps, [], ρ, tmps, _, h1, h2 => ⟨h1, h2⟩
  | p :: ps, v :: vs, ρ, tmps, hp, h1, h2 => by
    have hlt := hp p List.mem_cons_self
    have := setP_fits ps vs (upd ρ p v) (tmps.setIfInBounds p v) (fun q hq => hp q (List.mem_cons_of_mem _ hq)) (by simp [h1]) (fun k => by
      simp only [upd]
      by_cases e : k = p
      · subst e; simp [h1, hlt, beq_self]
      · rw [beq_ne e, ← h2 k]
        simp [Array.getElem?_setIfInBounds_ne (Ne.symm e)])
    simpa [setP] using this
section
variable {α : Type} {P : Program} {N : Nat} {Q : QE} {ρ : Nat → Value} {ds : List Nat} {w : World} {s : Sy}
/-- the body's proof is a promise of yield -/
theorem YS.of {l : Nat} {ps : Array Tmp} {asg body : Code} {E : α → List Value → Hp} {xs : List α} {I : List α → Hp} {X : Code → List α → Hp} (hps : ∀ p ∈ ps.toList, p < N) (hE : ∀ x vs h, E x vs h → vs.length = ps.size)
    (hb : ∀ pre x rest vs w L' L2, xs = pre ++ x :: rest → (∀ w A', Hd s w (A' ++ L2) → ∃ rec, w.heap[l]? = some (.loop rec)) → Hd s w (I pre :: E x vs :: L') →
      WC P (some l) N asg (noE fun ρ1 ds1 w1 => (∃ A' : List Hp, Hd s w1 (A' ++ L')) ∧ ∀ w2, (∀ A' : List Hp, Hd s w1 (A' ++ L') → Hd s w2 (A' ++ L2)) → WC P (some l) N body (roundE s (I (pre ++ [x])) (fun c => X c (pre ++ [x])) L2) ρ1 ds1 w2) (setP ρ ps.toList vs) [] w) :
    YS P s l E xs (fun pre => star (LR N ρ ps asg body l .ready none) (I pre)) (fun pre => fun h => ∃ c, star (LR N ρ ps asg body l .done (some c)) (X c pre) h) := by
  intro pre x rest vs w L' hxs H
  -- the record
  have H1 : Hd s w (LR N ρ ps asg body l .ready none :: I pre :: E x vs :: L') := H.unstar
  obtain ⟨rec, ⟨hst, hpd, hpa, has, hbo, hsz, hfit⟩, H2⟩ := Hd.opn (q := fun rec => pt l (.loop rec)) H1 (fun x hx => hx)
  obtain ⟨rst, rpd, rfn, rtm, rpa, ras, rbo, rdf⟩ := rec
  simp only at hst hpd hpa has hbo hsz hfit
  subst hst hpd hpa has hbo
  have hl := H2.obj 0 rfl
  have hvs : vs.length = rpa.size := by
    obtain ⟨h, _, he⟩ := H1.fact_at 2 rfl
    exact hE x vs h he
  have hfold := setP_fits (N := N) rpa.toList vs ρ rtm hps hsz hfit
  refine ⟨rfn, (rpa.zip vs.toArray).foldl (fun tmps (t, a) => tmps.setIfInBounds t a) rtm, ras, rbo, run_yield hl (by simpa using hvs), ?_⟩
  refine roundIn_of_wpIn (F := Fe none) trivial ?_
  have htm : (rpa.zip vs.toArray).foldl (fun tmps (t, a) => tmps.setIfInBounds t a) rtm = (rpa.toList.zip vs).foldl (fun t (p : Tmp × Value) => t.setIfInBounds p.1 p.2) rtm := by
    rw [← Array.foldl_toList]; simp
  have hF : Fits N { tmps := (rpa.zip vs.toArray).foldl (fun tmps (t, a) => tmps.setIfInBounds t a) rtm, defers := [] } (setP ρ rpa.toList vs) [] := by
    rw [htm]; exact ⟨hfold.1, hfold.2, rfl⟩
  have H3 : Hd s w (I pre :: E x vs :: pt l (.loop ⟨.ready, none, rfn, rtm, rpa, ras, rbo, rdf⟩) :: L') := H2.arr_head3
  have hrec2 : ∀ (w : World) (A' : List Hp), Hd s w (A' ++ pt l (.loop ⟨.busy, none, rfn, rtm, rpa, ras, rbo, rdf⟩) :: L') → ∃ rec, w.heap[l]? = some (.loop rec) := fun w A' h => ⟨⟨.busy, none, rfn, rtm, rpa, ras, rbo, rdf⟩, h.obj A'.length (by simp)⟩
  have := hb pre x rest vs w (pt l (.loop ⟨.ready, none, rfn, rtm, rpa, ras, rbo, rdf⟩) :: L') (pt l (.loop ⟨.busy, none, rfn, rtm, rpa, ras, rbo, rdf⟩) :: L') hxs hrec2 H3 _ hF
  refine wpIn_mono this ?_
  rintro e a w1 ⟨ρ1, ds1, f1, q1⟩
  cases e with
  | normal =>
    simp only [noE] at q1
    obtain ⟨⟨A', hA⟩, q1⟩ := q1
    have hl1 : w1.heap[l]? = some (.loop ⟨.ready, none, rfn, rtm, rpa, ras, rbo, rdf⟩) := hA.obj A'.length (by simp)
    show ∃ w₂, _
    refine ⟨_, run_beginRound hl1 rfl, ?_⟩
    have := q1 (w1.putObj l (.loop ⟨.busy, none, rfn, rtm, rpa, ras, rbo, rdf⟩)) (fun A' h => by
      have h' := Hd.putObj (b := l) (o := .loop ⟨.ready, none, rfn, rtm, rpa, ras, rbo, rdf⟩) h A'.length (by simp) (.loop ⟨.busy, none, rfn, rtm, rpa, ras, rbo, rdf⟩)
      simpa using h') a f1
    refine wpIn_mono this ?_
    rintro e2 a2 w3 ⟨ρ2, ds2, f2, q2⟩
    have fin : ∀ (p : Hp) (j : Option Code), Hd s w3 (p :: pt l (.loop ⟨.busy, none, rfn, rtm, rpa, ras, rbo, rdf⟩) :: L') → ∃ v w', (Instr.endRound l j).run P w3 = .ok v w' ∧ v = .bool j.isNone ∧
        Hd s w' (p :: pt l (.loop ⟨if j.isNone then .ready else .done, j, rfn, rtm, rpa, ras, rbo, rdf⟩) :: L') := fun p j h =>
      ⟨_, _, run_endRound j (h.obj 1 rfl), rfl, h.putObj 1 rfl _⟩
    cases e2 with
    | normal =>
      obtain ⟨v, w', r1, r2, r3⟩ := fin _ none q2
      refine ⟨v, w', r1, v, rfl, .inl ⟨r2, ?_⟩⟩
      refine Hd.star (Hd.weak (r3.perm (List.Perm.swap _ _ _)) fun h hp => ⟨_, ⟨rfl, rfl, rfl, rfl, rfl, hsz, hfit⟩, hp⟩)
    | ret =>
      obtain ⟨v, w', r1, r2, r3⟩ := fin _ (some .ret) q2
      refine ⟨v, w', r1, v, rfl, .inr ⟨r2, ?_⟩⟩
      refine Hd.weak (Hd.star (Hd.weak (r3.perm (List.Perm.swap _ _ _)) fun h hp => (⟨_, ⟨rfl, rfl, rfl, rfl, rfl, hsz, hfit⟩, hp⟩ : LR N ρ rpa ras rbo l .done (some .ret) h))) fun h hh => ⟨.ret, hh⟩
    | exit id =>
      obtain ⟨v, w', r1, r2, r3⟩ := fin _ (some (.exit id)) q2
      refine ⟨v, w', r1, v, rfl, .inr ⟨r2, ?_⟩⟩
      refine Hd.weak (Hd.star (Hd.weak (r3.perm (List.Perm.swap _ _ _)) fun h hp => (⟨_, ⟨rfl, rfl, rfl, rfl, rfl, hsz, hfit⟩, hp⟩ : LR N ρ rpa ras rbo l .done (some (.exit id)) h))) fun h hh => ⟨.exit id, hh⟩
    | goto t =>
      obtain ⟨v, w', r1, r2, r3⟩ := fin _ (some (.goto t)) q2
      refine ⟨v, w', r1, v, rfl, .inr ⟨r2, ?_⟩⟩
      refine Hd.weak (Hd.star (Hd.weak (r3.perm (List.Perm.swap _ _ _)) fun h hp => (⟨_, ⟨rfl, rfl, rfl, rfl, rfl, hsz, hfit⟩, hp⟩ : LR N ρ rpa ras rbo l .done (some (.goto t)) h))) fun h hh => ⟨.goto t, hh⟩
    | panic c => exact q2
    | outgrown => exact q2
  | exit id => exact q1
  | goto t => exact q1
  | ret => exact q1
  | panic c => exact q1
  | outgrown => exact q1
/-- for .. := range g { body }, at the function's own level -/
theorem WC.rangeFn0 {g : Operand} {ps : Array Tmp} {asg body : Code} {f : FuncId} {caps : List Value} {E : α → List Value → Hp} {xs : List α} {A : Hp} {B : List α → Hp} {I : List α → Hp} {X : Code → List α → Hp} {L : List Hp}
    (hg : ev ρ g = .func (.func f) #[] caps.toArray) (hc : Cal P f) (hps : ∀ p ∈ ps.toList, p < N) (hE : ∀ x vs h, E x vs h → vs.length = ps.size) (hit : ∀ l, YS P s l E xs (fun pre => star (LR N ρ ps asg body l .ready none) (I pre)) (fun pre => fun h => ∃ c, star (LR N ρ ps asg body l .done (some c)) (X c pre) h) → ∀ w L, Hd s w (star (LR N ρ ps asg body l .ready none) (I []) :: A :: L) → CC P f (.func (.yield l) #[] #[] :: caps).toArray w fun _ w' =>
      Hd s w' (star (LR N ρ ps asg body l .ready none) (I xs) :: B xs :: L) ∨ ∃ pre x rest, xs = pre ++ x :: rest ∧ Hd s w' ((fun h => ∃ c, star (LR N ρ ps asg body l .done (some c)) (X c (pre ++ [x])) h) :: B (pre ++ [x]) :: L)) (H : Hd s w (I [] :: A :: L))
    (hb : ∀ l pre x rest vs w L' L2, xs = pre ++ x :: rest → (∀ w A', Hd s w (A' ++ L2) → ∃ rec, w.heap[l]? = some (.loop rec)) → Hd s w (I pre :: E x vs :: L') →
      WC P (some l) N asg (noE fun ρ1 ds1 w1 => (∃ A' : List Hp, Hd s w1 (A' ++ L')) ∧ ∀ w2, (∀ A' : List Hp, Hd s w1 (A' ++ L') → Hd s w2 (A' ++ L2)) → WC P (some l) N body (roundE s (I (pre ++ [x])) (fun c => X c (pre ++ [x])) L2) ρ1 ds1 w2) (setP ρ ps.toList vs) [] w)
    (hdone : ∀ w m, Hd s w (I xs :: B xs :: pt m (.deferred (some [])) :: L) → Q .normal ρ (m :: ds) w)
    (hstop : ∀ w m c pre x rest, xs = pre ++ x :: rest → Hd s w (X c (pre ++ [x]) :: B (pre ++ [x]) :: pt m (.deferred (some [])) :: L) → WC P none N c Q ρ (m :: ds) w) :
    WC P none N (.rangeFunc g ps asg body) Q ρ ds w := fun a ha => by
  refine wpIn_rangeFunc fun fn _ => ?_
  have H1 := H.alloc (.deferred (some []))
  have H2 := H1.alloc (.loop { state := .ready, pending := none, fn, tmps := a.tmps, params := ps, assign := asg, body, defers := w.heap.size })
  simp only [World.size_alloc] at H2
  have hres : (resolve a.eval (rangeCall g (w.heap.size + 1)) 0).run P ((w.alloc (.deferred (some []))).alloc (.loop { state := .ready, pending := none, fn, tmps := a.tmps, params := ps, assign := asg, body, defers := w.heap.size })) =
      .ok { target := .fn (.func f) caps.toArray, args := #[.func (.yield (w.heap.size + 1)) #[] #[]] } ((w.alloc (.deferred (some []))).alloc (.loop { state := .ready, pending := none, fn, tmps := a.tmps, params := ps, assign := asg, body, defers := w.heap.size })) := by
    simp only [resolve, rangeCall, ha.eval, hg, Deferred.ofValue]
    have e1 : (#[] : Array Value) ++ Array.map (ev ρ) #[Operand.const (Value.func (Fn.yield (w.heap.size + 1)) #[] #[])] = #[.func (.yield (w.heap.size + 1)) #[] #[]] := by simp [ev]
    rw [e1]; rfl
  have hen := run_enterLoop_outer (P := P) (w := w) fn a.tmps ps asg body
  generalize (w.alloc (.deferred (some []))).alloc (.loop { state := .ready, pending := none, fn, tmps := a.tmps, params := ps, assign := asg, body, defers := w.heap.size }) = W at hres H2 hen
  refine ⟨w.heap.size + 1, [mk w.heap.size], W, _, W, f, (.func (.yield (w.heap.size + 1)) #[] #[] :: caps).toArray, W, hen, hres, fun _ _ => trivial, ?_, by simp [Fe], ?_⟩
  · simp only [invoke]
    rw [run_callFunc hc]
    simp
  · have hys := YS.of (l := w.heap.size + 1) (ps := ps) (asg := asg) (body := body) (E := E) (xs := xs) (I := I) (X := X) (ρ := ρ) (N := N) (P := P) (s := s) hps hE (hb (w.heap.size + 1))
    have H3 : Hd s _ (star (LR N ρ ps asg body (w.heap.size + 1) .ready none) (I []) :: A :: pt w.heap.size (.deferred (some [])) :: L) :=
      Hd.star (Hd.weak (H2.arr_tail3) fun h hp => ⟨_, ⟨rfl, rfl, rfl, rfl, rfl, ha.1, ha.2.1⟩, hp⟩)
    refine CallsIn.mono (hit _ hys _ _ H3) ?_
    rintro e w3 ⟨v, rfl, hor⟩
    have hfit : Fits N { a with defers := [mk w.heap.size] ++ a.defers } ρ (w.heap.size :: ds) := ⟨ha.1, ha.2.1, by simp [ha.2.2]⟩
    rcases hor with h | ⟨pre, x, rest, hx, h⟩
    · obtain ⟨rec, ⟨hst, hpd, _⟩, h2⟩ := Hd.opn (q := fun rec => pt (w.heap.size + 1) (.loop rec)) (Hd.unstar h) (fun x hx => hx)
      refine ⟨rec.pending, _, run_endLoop (h2.obj 0 rfl) (by rw [hst]; simp), ?_⟩
      rw [hpd]
      exact ⟨ρ, _, hfit, hdone _ _ (h2.putObj 0 rfl _).drop⟩
    · obtain ⟨c, h⟩ := Hd.unex h
      obtain ⟨rec, ⟨hst, hpd, _⟩, h2⟩ := Hd.opn (q := fun rec => pt (w.heap.size + 1) (.loop rec)) (Hd.unstar h) (fun x hx => hx)
      refine ⟨rec.pending, _, run_endLoop (h2.obj 0 rfl) (by rw [hst]; simp), ?_⟩
      rw [hpd]
      exact hstop _ _ c pre x rest hx (h2.putObj 0 rfl _).drop _ hfit
theorem WC.rangeFn {g : Operand} {ps : Array Tmp} {asg body : Code} {f : FuncId} {caps : List Value} {E : α → List Value → Hp} {xs : List α} {A : Hp} {B : List α → Hp} {I : List α → Hp} {X : Code → List α → Hp} {L : List Hp}
    (hg : ev ρ g = .func (.func f) #[] caps.toArray) (hc : Cal P f) (hps : ∀ p ∈ ps.toList, p < N) (hE : ∀ x vs h, E x vs h → vs.length = ps.size) (hit : IT P s f caps E xs A B) (H : Hd s w (I [] :: A :: L))
    (hb : ∀ l pre x rest vs w L' L2, xs = pre ++ x :: rest → (∀ w A', Hd s w (A' ++ L2) → ∃ rec, w.heap[l]? = some (.loop rec)) → Hd s w (I pre :: E x vs :: L') →
      WC P (some l) N asg (noE fun ρ1 ds1 w1 => (∃ A' : List Hp, Hd s w1 (A' ++ L')) ∧ ∀ w2, (∀ A' : List Hp, Hd s w1 (A' ++ L') → Hd s w2 (A' ++ L2)) → WC P (some l) N body (roundE s (I (pre ++ [x])) (fun c => X c (pre ++ [x])) L2) ρ1 ds1 w2) (setP ρ ps.toList vs) [] w)
    (hdone : ∀ w m, Hd s w (I xs :: B xs :: pt m (.deferred (some [])) :: L) → Q .normal ρ (m :: ds) w)
    (hstop : ∀ w m c pre x rest, xs = pre ++ x :: rest → Hd s w (X c (pre ++ [x]) :: B (pre ++ [x]) :: pt m (.deferred (some [])) :: L) → WC P none N c Q ρ (m :: ds) w) :
    WC P none N (.rangeFunc g ps asg body) Q ρ ds w := WC.rangeFn0 hg hc hps hE (fun l hy w L h => hit l _ _ w L hy h) H hb hdone hstop
theorem star_in {A Z I : Hp} : star A (star Z I) = star Z (star A I) := funext fun h => propext ⟨star_swap, star_swap⟩
theorem star_inE {Z : Hp} {A X : Code → Hp} : (fun h => ∃ c, star (A c) (star Z (X c)) h) = star Z (fun h => ∃ c, star (A c) (X c) h) := funext fun h => propext ⟨fun ⟨c, k⟩ => star_mono (star_swap k) (fun _ h => h) (fun _ k => ⟨c, k⟩), fun ⟨a, b, h1, h2, h3, c, h4⟩ => ⟨c, star_swap ⟨a, b, h1, h2, h3, h4⟩⟩⟩
/-- an iterator that shares Z with the body -/
def ITz {α : Type} (P : Program) (s : Sy) (f : FuncId) (caps : List Value) (E : α → List Value → Hp) (xs : List α) (Z A : Hp) (B : List α → Hp) : Prop :=
  ∀ (l : Nat) (J X : List α → Hp) (w : World) (L : List Hp), YS P s l E xs (fun pre => star Z (J pre)) (fun pre => star Z (X pre)) → Hd s w (star Z (J []) :: A :: L) → CC P f (.func (.yield l) #[] #[] :: caps).toArray w fun _ w' =>
    Hd s w' (star Z (J xs) :: B xs :: L) ∨ ∃ pre x rest, xs = pre ++ x :: rest ∧ Hd s w' (star Z (X (pre ++ [x])) :: B (pre ++ [x]) :: L)
theorem WC.rangeFnZ {g : Operand} {ps : Array Tmp} {asg body : Code} {f : FuncId} {caps : List Value} {E : α → List Value → Hp} {xs : List α} {A : Hp} {B : List α → Hp} {I : List α → Hp} {X : Code → List α → Hp} {L : List Hp} {Z : Hp}
    (hg : ev ρ g = .func (.func f) #[] caps.toArray) (hc : Cal P f) (hps : ∀ p ∈ ps.toList, p < N) (hE : ∀ x vs h, E x vs h → vs.length = ps.size) (hit : ITz P s f caps E xs Z A B) (H : Hd s w (star Z (I []) :: A :: L))
    (hb : ∀ l pre x rest vs w L' L2, xs = pre ++ x :: rest → (∀ w A', Hd s w (A' ++ L2) → ∃ rec, w.heap[l]? = some (.loop rec)) → Hd s w (star Z (I pre) :: E x vs :: L') →
      WC P (some l) N asg (noE fun ρ1 ds1 w1 => (∃ A' : List Hp, Hd s w1 (A' ++ L')) ∧ ∀ w2, (∀ A' : List Hp, Hd s w1 (A' ++ L') → Hd s w2 (A' ++ L2)) → WC P (some l) N body (roundE s (star Z (I (pre ++ [x]))) (fun c => star Z (X c (pre ++ [x]))) L2) ρ1 ds1 w2) (setP ρ ps.toList vs) [] w)
    (hdone : ∀ w m, Hd s w (star Z (I xs) :: B xs :: pt m (.deferred (some [])) :: L) → Q .normal ρ (m :: ds) w)
    (hstop : ∀ w m c pre x rest, xs = pre ++ x :: rest → Hd s w (star Z (X c (pre ++ [x])) :: B (pre ++ [x]) :: pt m (.deferred (some [])) :: L) → WC P none N c Q ρ (m :: ds) w) :
    WC P none N (.rangeFunc g ps asg body) Q ρ ds w := WC.rangeFn0 (I := fun pre => star Z (I pre)) (X := fun c pre => star Z (X c pre)) hg hc hps hE (fun l hy w L h => by
      have := hit l (fun pre => star (LR N ρ ps asg body l .ready none) (I pre)) (fun pre => fun h => ∃ c, star (LR N ρ ps asg body l .done (some c)) (X c pre) h) w L
      have eI : ∀ pre, star (LR N ρ ps asg body l .ready none) (star Z (I pre)) = star Z (star (LR N ρ ps asg body l .ready none) (I pre)) := fun _ => star_in
      have eX : ∀ pre, (fun h => ∃ c, star (LR N ρ ps asg body l .done (some c)) (star Z (X c pre)) h) = star Z (fun h => ∃ c, star (LR N ρ ps asg body l .done (some c)) (X c pre) h) := fun _ => star_inE
      refine CC.mono (this ((congr (congrArg (YS P s l E xs) (funext eI)) (funext eX)).mp hy) (by rw [← eI]; exact h)) fun v w' k => ?_
      rcases k with k | ⟨pre, x, rest, hx, k⟩
      · left; rw [eI]; exact k
      · right; refine ⟨pre, x, rest, hx, ?_⟩; rw [eX]; exact k) H hb hdone hstop
end
theorem Ty.of {P : Program} {t : TypeId} {z : Value} {sz b : Nat} (h : (P.info? t).map (fun i => (i.zero, i.size, i.bytes)) = some (some z, sz, b)) : Ty P t z sz b := by
  cases hi : P.info? t with
  | none => rw [hi] at h; cases h
  | some i => rw [hi] at h; simp at h; exact ⟨i, hi, h.1, h.2.1, h.2.2⟩
/-! ends -/
section
variable {P : Program} {fn : Func} {R : Value → World → Prop} {ρ : Nat → Value} {w : World} {ds : List Nat} {s : Sy} {L : List Hp}
theorem RetM.none' (h : fn.results = #[]) (hR : R (.tuple #[]) w) : RetM P fn R ρ [] w := fun tmps ht => ⟨_, results_none h tmps P w, hR⟩
theorem RetM.one {t : Tmp} {v : Value} (h : fn.results = #[.tmp t]) (hv : ρ t = v) (hR : R v w) : RetM P fn R ρ [] w := fun tmps ht => ⟨_, results_tmp h tmps P w, by rw [ht, hv]; exact hR⟩
theorem RetM.two {t u : Tmp} {v1 v2 : Value} (h : fn.results = #[.tmp t, .tmp u]) (h1 : ρ t = v1) (h2 : ρ u = v2) (hR : R (.tuple #[v1, v2]) w) : RetM P fn R ρ [] w := fun tmps ht => ⟨_, results_tmp2 h tmps P w, by rw [ht, ht, h1, h2]; exact hR⟩
theorem RetM.mark {m i : Nat} (H : Hd s w L) (hi : L[i]? = some (pt m (.deferred (some [])))) (k : ∀ w', Hd s w' (L.set i (pt m (.deferred none))) → RetM P fn R ρ ds w') : RetM P fn R ρ (m :: ds) w :=
  ⟨H.obj i hi, k _ (H.putObj i hi _)⟩
/-- two results in boxes -/
theorem RetM.cell2 {a b : Tmp} {ta tb : TypeId} {pa pb : Addr} {da db : TypeDesc} {v1 v2 : Value} (h : fn.results = #[.cell a ta, .cell b tb]) (ha : ρ a = .pointer (some pa)) (hb : ρ b = .pointer (some pb)) (ua : P.underlying ta = some da) (ga : aggD da = false) (ub : P.underlying tb = some db) (gb : aggD db = false)
    (ca : w.cell? pa = some v1) (cb : w.cell? pb = some v2) (hR : R (.tuple #[v1, v2]) w) : RetM P fn R ρ [] w := fun tmps ht => by
  refine ⟨_, ?_, hR⟩
  have h1 := ht a
  have h2 := ht b
  rw [ha] at h1
  rw [hb] at h2
  have e1 := run_loadVar1 (P := P) ua ga ca
  have e2 := run_loadVar1 (P := P) ub gb cb
  simp only [Array.getD_eq_getD_getElem?] at h1 h2
  simp [results, h, Sem.run_bind, h1, h2, asAddr, Result.andThen, Sem.run_pure, e1, e2]
theorem RetM.cell1 {a : Tmp} {ta : TypeId} {pa : Addr} {da : TypeDesc} {v1 : Value} (h : fn.results = #[.cell a ta]) (ha : ρ a = .pointer (some pa)) (ua : P.underlying ta = some da) (ga : aggD da = false)
    (ca : w.cell? pa = some v1) (hR : R v1 w) : RetM P fn R ρ [] w := fun tmps ht => by
  refine ⟨_, ?_, hR⟩
  have h1 := ht a
  rw [ha] at h1
  have e1 := run_loadVar1 (P := P) ua ga ca
  simp only [Array.getD_eq_getD_getElem?] at h1
  simp [results, h, Sem.run_bind, h1, asAddr, Result.andThen, Sem.run_pure, e1]
end
/-! steps, their places written out -/
section
variable {P : Program} {r : Option Nat} {N : Nat} {Q : QE} {ρ : Nat → Value} {ds : List Nat} {w : World} {ops : Array Oper} {rest : List Oper} {d : Nat} {op : Op} {ty : TypeId} {ps : String} {af : Array Edge} {g : Option (Nat × Bool)} {v : Value}
theorem ev_c {v : Value} : ev ρ (.const v) = v := rfl
/-- a reading -/
theorem l_rd (hd : Nat.blt d N = true) (hp : plainOp ⟨some d, op, ty, ps, af, none⟩ = true) (hx : (execOp (ev ρ) ⟨some d, op, ty, ps, af, none⟩).run P w = .ok (.value v) w) (k : WL P r N ops Q rest (upd ρ d v) ds w) : WL P r N ops Q (⟨some d, op, ty, ps, af, none⟩ :: rest) ρ ds w := WL.rd rfl hd hp hx k
theorem l_st (hd : Nat.blt d N = true) (h : St P ⟨some d, op, ty, ps, af, none⟩ ρ w fun v w' => WL P r N ops Q rest (upd ρ d v) ds w') : WL P r N ops Q (⟨some d, op, ty, ps, af, none⟩ :: rest) ρ ds w := WL.st rfl hd h
theorem l_no (h : St P ⟨none, op, ty, ps, af, none⟩ ρ w fun _ w' => WL P r N ops Q rest ρ ds w') : WL P r N ops Q (⟨none, op, ty, ps, af, none⟩ :: rest) ρ ds w := WL.st rfl rfl h
theorem l_gy (hw : Region.wanted ⟨some d, op, ty, ps, af, g⟩ (yieldE ops ρ) = true) (hd : Nat.blt d N = true) (hp : plainOp ⟨some d, op, ty, ps, af, g⟩ = true) (hx : (execOp (ev ρ) ⟨some d, op, ty, ps, af, g⟩).run P w = .ok (.value v) w) (k : WL P r N ops Q rest (upd ρ d v) ds w) : WL P r N ops Q (⟨some d, op, ty, ps, af, g⟩ :: rest) ρ ds w := by
  refine WL.guard_yes hd hw ⟨?_, ?_⟩
  · cases op <;> first | trivial | (simp [plainOp] at hp)
  · rw [hx]; exact k
theorem l_gst (hw : Region.wanted ⟨some d, op, ty, ps, af, g⟩ (yieldE ops ρ) = true) (hd : Nat.blt d N = true) (h : St P ⟨some d, op, ty, ps, af, g⟩ ρ w fun v w' => WL P r N ops Q rest (upd ρ d v) ds w') : WL P r N ops Q (⟨some d, op, ty, ps, af, g⟩ :: rest) ρ ds w := WL.guard_yes hd hw h
theorem l_gn (hw : Region.wanted ⟨some d, op, ty, ps, af, g⟩ (yieldE ops ρ) = false) (hd : Nat.blt d N = true) (k : WL P r N ops Q rest (upd ρ d undef) ds w) : WL P r N ops Q (⟨some d, op, ty, ps, af, g⟩ :: rest) ρ ds w := WL.guard_no hd hw k
theorem l_rdD {p : Prop} [Decidable p] (hd : Nat.blt d N = true) (hp : plainOp ⟨some d, op, ty, ps, af, none⟩ = true) (hx : (execOp (ev ρ) ⟨some d, op, ty, ps, af, none⟩).run P w = .ok (.value (.bool (decide p))) w) (ht : p → WL P r N ops Q rest (upd ρ d (.bool true)) ds w) (hf : ¬p → WL P r N ops Q rest (upd ρ d (.bool false)) ds w) : WL P r N ops Q (⟨some d, op, ty, ps, af, none⟩ :: rest) ρ ds w := by
  refine l_rd hd hp hx ?_
  by_cases h : p
  · rw [decide_eq_true h]; exact ht h
  · rw [decide_eq_false h]; exact hf h
theorem l_gyD {p : Prop} [Decidable p] (hw : Region.wanted ⟨some d, op, ty, ps, af, g⟩ (yieldE ops ρ) = true) (hd : Nat.blt d N = true) (hp : plainOp ⟨some d, op, ty, ps, af, g⟩ = true) (hx : (execOp (ev ρ) ⟨some d, op, ty, ps, af, g⟩).run P w = .ok (.value (.bool (decide p))) w) (ht : p → WL P r N ops Q rest (upd ρ d (.bool true)) ds w) (hf : ¬p → WL P r N ops Q rest (upd ρ d (.bool false)) ds w) : WL P r N ops Q (⟨some d, op, ty, ps, af, g⟩ :: rest) ρ ds w := by
  refine l_gy hw hd hp hx ?_
  by_cases h : p
  · rw [decide_eq_true h]; exact ht h
  · rw [decide_eq_false h]; exact hf h
variable {eff : List Nat} {bef : List (List Nat)} {i : Nat} {can pend : List Nat}
theorem k_rd (ho : ops[i]? = some ⟨some d, op, ty, ps, af, g⟩) (he : eff.contains i = false) (hs : RS P ops ⟨some d, op, ty, ps, af, g⟩ ρ w v) (k : WK P r N ops eff bef Q can (i :: pend) (upd ρ d v) ds w) : WK P r N ops eff bef Q (i :: can) pend ρ ds w := WK.rd ho he hs k
theorem k_st (ho : ops[i]? = some ⟨some d, op, ty, ps, af, g⟩) (he : eff.contains i = true) (hw : Region.wanted ⟨some d, op, ty, ps, af, g⟩ (yieldE ops ρ) = true)
    (k : St P ⟨some d, op, ty, ps, af, g⟩ ρ w fun v w' => Stab P ops (bef.getD i []) pend (upd ρ d v) w' ∧ WK P r N ops eff bef Q can pend (upd ρ d v) ds w') : WK P r N ops eff bef Q (i :: can) pend ρ ds w := WK.ef ho he hw k
theorem k_no (ho : ops[i]? = some ⟨none, op, ty, ps, af, g⟩) (he : eff.contains i = true) (hw : Region.wanted ⟨none, op, ty, ps, af, g⟩ (yieldE ops ρ) = true)
    (k : St P ⟨none, op, ty, ps, af, g⟩ ρ w fun _ w' => Stab P ops (bef.getD i []) pend ρ w' ∧ WK P r N ops eff bef Q can pend ρ ds w') : WK P r N ops eff bef Q (i :: can) pend ρ ds w := WK.ef ho he hw k
theorem k_un (ho : ops[i]? = some ⟨some d, op, ty, ps, af, g⟩) (he : eff.contains i = true) (hw : Region.wanted ⟨some d, op, ty, ps, af, g⟩ (yieldE ops ρ) = false)
    (hs : Stab P ops (bef.getD i []) pend (upd ρ d undef) w) (k : WK P r N ops eff bef Q can pend (upd ρ d undef) ds w) : WK P r N ops eff bef Q (i :: can) pend ρ ds w := WK.un ho he hw hs k
theorem k_unN (ho : ops[i]? = some ⟨none, op, ty, ps, af, g⟩) (he : eff.contains i = true) (hw : Region.wanted ⟨none, op, ty, ps, af, g⟩ (yieldE ops ρ) = false)
    (hs : Stab P ops (bef.getD i []) pend ρ w) (k : WK P r N ops eff bef Q can pend ρ ds w) : WK P r N ops eff bef Q (i :: can) pend ρ ds w := WK.un ho he hw hs k
theorem k_rdD {p : Prop} [Decidable p] (ho : ops[i]? = some ⟨some d, op, ty, ps, af, g⟩) (he : eff.contains i = false) (hw : Region.wanted ⟨some d, op, ty, ps, af, g⟩ (yieldE ops ρ) = true) (hp : plainOp ⟨some d, op, ty, ps, af, g⟩ = true) (hx : (execOp (ev ρ) ⟨some d, op, ty, ps, af, g⟩).run P w = .ok (.value (.bool (decide p))) w)
    (ht : p → WK P r N ops eff bef Q can (i :: pend) (upd ρ d (.bool true)) ds w) (hf : ¬p → WK P r N ops eff bef Q can (i :: pend) (upd ρ d (.bool false)) ds w) : WK P r N ops eff bef Q (i :: can) pend ρ ds w := by
  refine k_rd ho he (RS.yes hp hw hx) ?_
  by_cases h : p
  · rw [decide_eq_true h]; exact ht h
  · rw [decide_eq_false h]; exact hf h
end
/-! tests -/
section
variable {P : Program} {r : Option Nat} {N : Nat} {Q : QE} {ρ : Nat → Value} {ds : List Nat} {w : World} {ops : Array Oper} {rest : List Oper} {o : Oper} {d : Nat}
theorem WL.rdD {p : Prop} [Decidable p] (hg : o.guard = none) (hdd : o.dst = some d) (hd : Nat.blt d N = true) (hp : plainOp o = true) (hx : (execOp (ev ρ) o).run P w = .ok (.value (.bool (decide p))) w) (ht : p → WL P r N ops Q rest (upd ρ d (.bool true)) ds w) (hf : ¬p → WL P r N ops Q rest (upd ρ d (.bool false)) ds w) : WL P r N ops Q (o :: rest) ρ ds w := by
  refine WL.rd hg (by rw [hdd]; exact hd) hp hx ?_
  rw [hdd]
  by_cases h : p
  · rw [decide_eq_true h]; exact ht h
  · rw [decide_eq_false h]; exact hf h
/-- a guarded operation that is carried out -/
theorem wantY {j : Nat} {b : Bool} {t : Tmp} (hg : o.guard = some (j, b)) (hd : (ops[j]?).bind (·.dst) = some t) (hv : ρ t = .bool b) : Region.wanted o (yieldE ops ρ) = true := by
  simp [Region.wanted, hg, yieldE, hd, hv]
theorem wantN {j : Nat} {b : Bool} {t : Tmp} (hg : o.guard = some (j, b)) (hd : (ops[j]?).bind (·.dst) = some t) (hv : ρ t = .bool (!b)) : Region.wanted o (yieldE ops ρ) = false := by
  simp [Region.wanted, hg, yieldE, hd, hv]
theorem wantU {j : Nat} {b : Bool} {t : Tmp} (hg : o.guard = some (j, b)) (hd : (ops[j]?).bind (·.dst) = some t) (hv : ρ t = undef) : Region.wanted o (yieldE ops ρ) = false := by
  simp [Region.wanted, hg, yieldE, hd, hv, undef]
theorem WL.gy {v : Value} (hw : Region.wanted o (yieldE ops ρ) = true) (hd : okD N o.dst = true) (hp : plainOp o = true) (hx : (execOp (ev ρ) o).run P w = .ok (.value v) w) (k : WL P r N ops Q rest (updO ρ o.dst v) ds w) : WL P r N ops Q (o :: rest) ρ ds w := by
  refine WL.guard_yes hd hw ⟨?_, ?_⟩
  · cases ho : o.op <;> simp_all [plainOp]
  · rw [hx]; exact k
theorem WL.gyD {p : Prop} [Decidable p] (hw : Region.wanted o (yieldE ops ρ) = true) (hdd : o.dst = some d) (hd : Nat.blt d N = true) (hp : plainOp o = true) (hx : (execOp (ev ρ) o).run P w = .ok (.value (.bool (decide p))) w) (ht : p → WL P r N ops Q rest (upd ρ d (.bool true)) ds w) (hf : ¬p → WL P r N ops Q rest (upd ρ d (.bool false)) ds w) : WL P r N ops Q (o :: rest) ρ ds w := by
  refine WL.gy hw (by rw [hdd]; exact hd) hp hx ?_
  rw [hdd]
  by_cases h : p
  · rw [decide_eq_true h]; exact ht h
  · rw [decide_eq_false h]; exact hf h
theorem WK.rdD {p : Prop} [Decidable p] {eff : List Nat} {bef : List (List Nat)} {i : Nat} {can pend : List Nat} (ho : ops[i]? = some o) (he : eff.contains i = false) (hdd : o.dst = some d) (hw : Region.wanted o (yieldE ops ρ) = true) (hp : plainOp o = true) (hx : (execOp (ev ρ) o).run P w = .ok (.value (.bool (decide p))) w)
    (ht : p → WK P r N ops eff bef Q can (i :: pend) (upd ρ d (.bool true)) ds w) (hf : ¬p → WK P r N ops eff bef Q can (i :: pend) (upd ρ d (.bool false)) ds w) : WK P r N ops eff bef Q (i :: can) pend ρ ds w := by
  refine WK.rd ho he (RS.yes hp hw hx) ?_
  rw [hdd]
  by_cases h : p
  · rw [decide_eq_true h]; exact ht h
  · rw [decide_eq_false h]; exact hf h
theorem WC.cond1 {c : Operand} {x y : Code} (hc : ev ρ c = .bool true) (h : WC P r N x Q ρ ds w) : WC P r N (.cond c x y) Q ρ ds w := WC.cond true hc (fun _ => h) (fun h => by cases h)
theorem WC.cond0 {c : Operand} {x y : Code} (hc : ev ρ c = .bool false) (h : WC P r N y Q ρ ds w) : WC P r N (.cond c x y) Q ρ ds w := WC.cond false hc (fun h => by cases h) (fun _ => h)
/-- what is known between two pieces of code -/
theorem WC.cut {c : Code} (M : (Nat → Value) → List Nat → World → Prop) {K : (Nat → Value) → List Nat → World → Prop} (h : WC P r N c (thenE M Q) ρ ds w) (k : ∀ ρ ds w, M ρ ds w → K ρ ds w) : WC P r N c (thenE K Q) ρ ds w :=
  h.mono fun e ρ ds w q => by cases e <;> first | exact k _ _ _ q | exact q
end
section
variable {P : Program} {w : World} {ρ : Nat → Value} {d : Option Tmp} {ty : TypeId} {ps : String} {af : Array Edge} {g : Option (Nat × Bool)} {s : Sy} {L : List Hp} {K : Value → World → Prop}
theorem x_pick1 {c a b : Operand} {v : Value} (hc : ev ρ c = .bool true) (ha : ev ρ a = v) : (execOp (ev ρ) ⟨d, .pick c a b, ty, ps, af, g⟩).run P w = .ok (.value v) w := by
  subst ha; simp [execOp, hc, asBool, Sem.run_bind, Result.andThen, Sem.run_pure]
theorem x_pick0 {c a b : Operand} {v : Value} (hc : ev ρ c = .bool false) (hb : ev ρ b = v) : (execOp (ev ρ) ⟨d, .pick c a b, ty, ps, af, g⟩).run P w = .ok (.value v) w := by
  subst hb; simp [execOp, hc, asBool, Sem.run_bind, Result.andThen, Sem.run_pure]
theorem x_cmp {op : BinOp} {t t2 : TypeId} {x y : Operand} {a b : Value} {bb : Bool} (hx : ev ρ x = a) (hy : ev ρ y = b) (hg : (eqGuard op t x y a b).run P w = .ok () w) (hv : (binOp op t a b).run P w = .ok (.bool bb) w) : (execOp (ev ρ) ⟨d, .binOp op t x y t2, ty, ps, af, g⟩).run P w = .ok (.value (.bool bb)) w := by
  simp [execOp, hx, hy, Sem.run_bind, hg, hv, Result.andThen, Sem.run_pure]
theorem eql_ptr_nil {t e : TypeId} {a : Option Addr} (ht : P.underlying t = some (.pointer e)) : (Op.equal t (.pointer a) (.pointer none)).run P w = .ok a.isNone w := by
  have : ∀ n, (Op.equalIn (n + 1) t (.pointer a) (.pointer none)).run P w = .ok a.isNone w := fun n => by
    cases a <;> simp [Op.equalIn, Sem.run_bind, run_under ht, Result.andThen, Sem.run_pure]
  exact this 9999
theorem eql_map_nil {t k e : TypeId} {a : Option Nat} (ht : P.underlying t = some (.map k e)) : (Op.equal t (.map a) (.map none)).run P w = .ok a.isNone w := by
  have : ∀ n, (Op.equalIn (n + 1) t (.map a) (.map none)).run P w = .ok a.isNone w := fun n => by
    cases a <;> simp [Op.equalIn, Sem.run_bind, run_under ht, Result.andThen, Sem.run_pure]
  exact this 9999
theorem x_neqPN {t t2 e : TypeId} {x : Operand} {a : Option Addr} (ht : P.underlying t = some (.pointer e)) (hx : ev ρ x = .pointer a) : (execOp (ev ρ) ⟨d, .binOp .neq t x (.const (.pointer none)) t2, ty, ps, af, g⟩).run P w = .ok (.value (.bool a.isSome)) w := by
  refine x_cmp (b := .pointer none) hx rfl (by simp [eqGuard, Sem.run_pure]) ?_
  have := eql_ptr_nil (P := P) (w := w) (a := a) ht
  cases a <;> simp [binOp, Sem.run_bind, this, Result.andThen, Sem.run_pure]
theorem x_eqlPN {t t2 e : TypeId} {x : Operand} {a : Option Addr} (ht : P.underlying t = some (.pointer e)) (hx : ev ρ x = .pointer a) : (execOp (ev ρ) ⟨d, .binOp .eql t x (.const (.pointer none)) t2, ty, ps, af, g⟩).run P w = .ok (.value (.bool a.isNone)) w := by
  refine x_cmp (b := .pointer none) hx rfl (by simp [eqGuard, Sem.run_pure]) ?_
  have := eql_ptr_nil (P := P) (w := w) (a := a) ht
  cases a <;> simp [binOp, Sem.run_bind, this, Result.andThen, Sem.run_pure]
theorem x_neqMN {t t2 k e : TypeId} {x : Operand} {a : Option Nat} (ht : P.underlying t = some (.map k e)) (hx : ev ρ x = .map a) : (execOp (ev ρ) ⟨d, .binOp .neq t x (.const (.map none)) t2, ty, ps, af, g⟩).run P w = .ok (.value (.bool a.isSome)) w := by
  refine x_cmp (b := .map none) hx rfl (by simp [eqGuard, Sem.run_pure]) ?_
  have := eql_map_nil (P := P) (w := w) (a := a) ht
  cases a <;> simp [binOp, Sem.run_bind, this, Result.andThen, Sem.run_pure]
theorem x_eqlMN {t t2 k e : TypeId} {x : Operand} {a : Option Nat} (ht : P.underlying t = some (.map k e)) (hx : ev ρ x = .map a) : (execOp (ev ρ) ⟨d, .binOp .eql t x (.const (.map none)) t2, ty, ps, af, g⟩).run P w = .ok (.value (.bool a.isNone)) w := by
  refine x_cmp (b := .map none) hx rfl (by simp [eqGuard, Sem.run_pure]) ?_
  have := eql_map_nil (P := P) (w := w) (a := a) ht
  cases a <;> simp [binOp, Sem.run_bind, this, Result.andThen, Sem.run_pure]
/-! calls, with their arguments as lists -/
theorem s_callL {f : FuncId} {args : List Operand} {ats : Array TypeId} {R : Value → World → Prop} (hc : Cal P f) (h : CC P f (args.map (ev ρ)).toArray w R) (k : ∀ v w', R v w' → K v w') : St P ⟨d, .call { callee := .value (.func f), args := args.toArray, argTypes := ats }, ty, ps, af, g⟩ ρ w K :=
  s_call hc (by simpa using h) k
theorem s_callvL {x : Operand} {f : FuncId} {args : List Operand} {ats : Array TypeId} {caps : List Value} {R : Value → World → Prop} (hx : ev ρ x = .func (.func f) #[] caps.toArray) (hc : Cal P f) (h : CC P f (args.map (ev ρ) ++ caps).toArray w R) (k : ∀ v w', R v w' → K v w') : St P ⟨d, .call { callee := .value x, args := args.toArray, argTypes := ats }, ty, ps, af, g⟩ ρ w K :=
  s_callv hx hc (by simpa using h) k
theorem s_yieldL {x : Operand} {l : Nat} {args : List Operand} {ats : Array TypeId} {R : Value → World → Prop} (hx : ev ρ x = .func (.yield l) #[] #[]) (h : YY P l (args.map (ev ρ)).toArray w R) (k : ∀ v w', R v w' → K v w') : St P ⟨d, .call { callee := .value x, args := args.toArray, argTypes := ats }, ty, ps, af, g⟩ ρ w K :=
  s_yield hx (by simpa using h) k
theorem s_st {t : TypeId} {a x : Operand} {b off : Nat} {cs : Array Value} {t0 : TypeId} {z v : Value} {by_ : Nat} (i : Nat) (hi : L[i]? = some (pt b (.cells cs t0 (0, 0)))) (hy : Ty P t z 1 by_) (ha : ev ρ a = .pointer (some ⟨b, off, none⟩)) (hx : ev ρ x = v) (h1 : oneC v = true) (hoff : Nat.blt off cs.toList.length = true)
    (H : Hd s w L) (k : ∀ w', Hd s w' (L.set i (pt b (.cells (cs.toList.set off v).toArray t0))) → K undef w') : St P ⟨d, .store t a x, ty, ps, af, g⟩ ρ w K :=
  s_store i hi hy ha hx h1 (by simpa using blt_lt hoff) H (fun w' H' => k w' (by
    have e : cs.setIfInBounds off v = (cs.toList.set off v).toArray := by apply Array.ext'; simp
    rw [e] at H'; exact H'))
end
/-! loops -/
theorem WC.again {I : (Nat → Value) → List Nat → World → Prop} {μ : (Nat → Value) → World → Nat} {m : Nat} {Q : QE} {ρ : Nat → Value} {ds : List Nat} {w : World} (h : I ρ ds w) (hm : μ ρ w < m) : thenE (fun ρ ds w => I ρ ds w ∧ μ ρ w < m) Q .normal ρ ds w := ⟨h, hm⟩
/-! what was there ahead of the call -/
section
variable {s : Sy} {w : World} {L : List Hp}
def Old (w0 w : World) : Prop := ∀ (k : Nat) (o : Obj), w0.heap[k]? = some o → w.heap[k]? = some o
theorem Hd.old (H : Hd s w L) {w0 : World} (i : Nat) (hi : L[i]? = some (fr w0)) : Old w0 w := H.frozen i hi
theorem Old.cell {w0 w : World} (h : Old w0 w) {a : Addr} {v : Value} (hc : w0.cell? a = some v) : w.cell? a = some v := by
  have hlt := World.block_lt_of_cell? w0 a hc
  have := h a.block _ (Array.getElem?_eq_getElem hlt)
  rw [← hc]; exact World.cell?_of_block (w := w0) (by rw [this, Array.getElem?_eq_getElem hlt])
theorem Old.rdC {w0 w : World} (h : Old w0 w) {v : Value} {sz n : Nat} {cs : List Value} (hr : RdC w0 v sz n cs) : RdC w v sz n cs := by
  obtain ⟨h1, h2 | ⟨b, o, c, h2, h3⟩⟩ := hr
  · exact ⟨h1, .inl h2⟩
  · exact ⟨h1, .inr ⟨b, o, c, h2, fun j u hj => h.cell (h3 j u hj)⟩⟩
theorem Ext.old {w w' : World} (e : Ext w w') : Old w w' := fun k o hk => (e.block k (Array.getElem?_eq_some_iff.1 hk).1).trans hk
end
section
variable {P : Program} {w : World} {ρ : Nat → Value} {d : Option Tmp} {ty : TypeId} {ps : String} {af : Array Edge} {g : Option (Nat × Bool)} {s : Sy} {L : List Hp} {K : Value → World → Prop}
/-! slices of slices -/
theorem x_sliceTo {t e : TypeId} {x h : Operand} {a : Option Addr} {n c : Nat} {k : IntKind} {i : Int} {z : Value} {sz by_ : Nat} (ht : P.underlying t = some (.slice e)) (hy : Ty P e z sz by_) (hx : ev ρ x = .slice a n c) (hh : ev ρ h = .int k i) (h0 : 0 ≤ i) (h1 : i ≤ c) :
    (execOp (ev ρ) ⟨d, .slice t x none (some h) none, ty, ps, af, g⟩).run P w = .ok (.value (.slice a i.toNat c)) w := by
  simp only [execOp, Instr.sliceAt, Sem.run_bind, run_under ht, Result.andThen, hx, Option.map_some, Option.map_none, hh]
  simp [Instr.slice, Instr.sliceBounds, Instr.sliceBound, asIntOf, Sem.run_bind, run_under ht, Result.andThen, Sem.run_pure, hy.size, h0, h1]
  cases a with
  | none => simp
  | some a => simp [Addr.add]
theorem x_sliceFrom {t e : TypeId} {x l : Operand} {b o n c : Nat} {k : IntKind} {i : Int} {z : Value} {sz by_ : Nat} (ht : P.underlying t = some (.slice e)) (hy : Ty P e z sz by_) (hx : ev ρ x = .slice (some ⟨b, o, none⟩) n c) (hl : ev ρ l = .int k i) (h0 : 0 ≤ i) (h1 : i ≤ n) (hc : n ≤ c) :
    (execOp (ev ρ) ⟨d, .slice t x (some l) none none, ty, ps, af, g⟩).run P w = .ok (.value (.slice (some (if c = i.toNat then ⟨b, o, none⟩ else ⟨b, o + i.toNat * sz, none⟩)) (n - i.toNat) (c - i.toNat))) w := by
  simp only [execOp, Instr.sliceAt, Sem.run_bind, run_under ht, Result.andThen, hx, Option.map_some, Option.map_none, hl]
  simp [Instr.slice, Instr.sliceBounds, Instr.sliceBound, asIntOf, Sem.run_bind, run_under ht, Result.andThen, Sem.run_pure, hy.size, h0, h1, add_plain]
  split <;> rfl
theorem x_cap {t e : TypeId} {x : Operand} {a : Option Addr} {n c : Nat} {ats : Array TypeId} (ht : P.underlying t = some (.slice e)) (ha : ats[0]? = some t) (hx : ev ρ x = .slice a n c) :
    (execOp (ev ρ) ⟨d, .call { callee := .builtin .cap, args := #[x], argTypes := ats }, ty, ps, af, g⟩).run P w = .ok (.value (.int .i64 c)) w := by
  simp [execOp, resolve, invoke, builtin, Builtin.cap_, ha, hx, Sem.run_bind, Result.andThen, Sem.run_pure, run_under ht, goInt]
theorem x_min {x y : Operand} {a b : Int} {k : IntKind} {ats : Array TypeId} (hx : ev ρ x = .int k a) (hy : ev ρ y = .int k b) :
    (execOp (ev ρ) ⟨d, .call { callee := .builtin .min, args := #[x, y], argTypes := ats }, ty, ps, af, g⟩).run P w = .ok (.value (.int k (if b < a then b else a))) w := by
  simp [execOp, resolve, invoke, builtin, Builtin.min_, Builtin.min2, hx, hy, Sem.run_bind, Result.andThen, Sem.run_pure]
theorem x_max {x y : Operand} {a b : Int} {k : IntKind} {ats : Array TypeId} (hx : ev ρ x = .int k a) (hy : ev ρ y = .int k b) :
    (execOp (ev ρ) ⟨d, .call { callee := .builtin .max, args := #[x, y], argTypes := ats }, ty, ps, af, g⟩).run P w = .ok (.value (.int k (if a < b then b else a))) w := by
  simp [execOp, resolve, invoke, builtin, Builtin.max_, Builtin.max2, hx, hy, Sem.run_bind, Result.andThen, Sem.run_pure]
/-! strings -/
theorem x_indexS {t : TypeId} {x ix : Operand} {st : ByteArray} {k : IntKind} {i : Int} (ht : P.underlying t = some .string) (hx : ev ρ x = .string st) (hi : ev ρ ix = .int k i) (h0 : 0 ≤ i) (h1 : i.toNat < st.size) :
    (execOp (ev ρ) ⟨d, .index t x ix, ty, ps, af, g⟩).run P w = .ok (.value (.int .u8 (st[i.toNat].toNat : Int))) w := by
  simp [execOp, Instr.index, hx, hi, asIntOf, Sem.run_bind, Result.andThen, Sem.run_pure, run_under ht, h0, h1]
theorem x_convI {t u : TypeId} {x : Operand} {k k2 : IntKind} {i : Int} {dd : TypeDesc} (ht : P.underlying t = some dd) (hu : P.underlying u = some (.int k2)) (hx : ev ρ x = .int k i) :
    (execOp (ev ρ) ⟨d, .convert t u x, ty, ps, af, g⟩).run P w = .ok (.value (.int k2 (k2.wrap i))) w := by
  simp [execOp, convert, hx, Sem.run_bind, Result.andThen, Sem.run_pure, run_under ht, run_under hu, Conv.intToInt]
theorem x_shr {t t2 : TypeId} {x y : Operand} {k k2 : IntKind} {a b : Int} (hx : ev ρ x = .int k a) (hy : ev ρ y = .int k2 b) (hb : 0 ≤ b) :
    (execOp (ev ρ) ⟨d, .binOp .shr t x y t2, ty, ps, af, g⟩).run P w = .ok (.value (.int k (a.fdiv (2 ^ (min b.toNat k.bits))))) w := by
  have hg : (eqGuard .shr t x y (.int k a) (.int k2 b)).run P w = .ok () w := by simp [eqGuard, Sem.run_pure]
  simp [execOp, hx, hy, Sem.run_bind, hg, binOp, Op.shift, show ¬ b < 0 by omega, Result.andThen, Sem.run_pure]
/-! an element of a slice of one's own is written -/
theorem s_storeEl {t e : TypeId} {a x : Operand} {v : Value} {n : Nat} {cs : List Value} {z u : Value} {by_ b o c k : Nat} (i : Nat) (hi : L[i]? = some (Sl v e 1 n cs)) (hv : v = .slice (some ⟨b, o, none⟩) n c) (hk : k < n) (hy : Ty P t z 1 by_) (ha : ev ρ a = .pointer (some ⟨b, o + k * 1, none⟩)) (hx : ev ρ x = u) (h1 : oneC u = true)
    (H : Hd s w L) (kk : ∀ w', Hd s w' (L.set i (Sl v e 1 n (cs.set k u))) → K undef w') : St P ⟨d, .store t a x, ty, ps, af, g⟩ ρ w K := by
  subst hv
  obtain ⟨⟨hl, hnb⟩, H1⟩ := Hd.unand (H.pick i hi)
  obtain ⟨q, ⟨hq1, _⟩, H2⟩ := Hd.opn (φ := fun q => SlB (.slice (some ⟨b, o, none⟩) n c) e 1 n cs q ∧ True) (q := fun q => pt q.1 (.cells q.2.2.2 e (0, 0))) H1 (by
    rintro x (⟨h1, _⟩ | ⟨q, h1, h2⟩)
    · cases h1
    · exact ⟨q, ⟨h1, trivial⟩, h2⟩)
  obtain ⟨b', o', c', all⟩ := q
  obtain ⟨e1, e2, e3, e4⟩ := hq1
  simp only [Value.slice.injEq, Option.some.injEq, Addr.mk.injEq] at e1
  obtain ⟨⟨rfl, rfl, _⟩, _, rfl⟩ := e1
  simp only at e2 e3 e4 H2
  rw [Nat.mul_one] at ha e3
  have hlt : o + k < all.size := by omega
  refine s_store (cs := all) 0 rfl hy ha hx h1 hlt H2 (fun w' H3 => kk w' ?_)
  refine Hd.back hi (Hd.weak H3 fun h hp => ⟨⟨by simpa using hl, hnb⟩, .inr ⟨(b, o, c, all.setIfInBounds (o + k) u), ⟨rfl, e2, by simpa using e3, ?_⟩, hp⟩⟩)
  intro j uu hj
  show (all.setIfInBounds (o + k) u)[o + j]? = some uu
  rw [Array.getElem?_setIfInBounds]
  rw [List.getElem?_set] at hj
  by_cases hjk : k = j
  · subst hjk
    rw [if_pos rfl] at hj
    have : k < cs.length := by rw [hl]; omega
    rw [if_pos this] at hj
    rw [if_pos rfl, if_pos hlt]; exact hj
  · rw [if_neg hjk] at hj
    rw [if_neg (by omega)]
    exact e4 j uu hj
/-! a longer view of a slice of one's own -/
theorem RdC.take {v : Value} {n m : Nat} {a : Option Addr} {c : Nat} {cs : List Value} {sz : Nat} (h : RdC w (.slice a n c) sz n cs) (hm : m ≤ n) : RdC w (.slice a m c) sz m (cs.take (m * sz)) := by
  obtain ⟨⟨h1, hnb⟩, ⟨h2, _⟩ | ⟨b, o, c', h2, h3⟩⟩ := h
  · obtain rfl : m = 0 := by omega
    exact ⟨⟨by simp, by omega⟩, .inl ⟨rfl, a, c, rfl⟩⟩
  · simp only [Value.slice.injEq] at h2
    obtain ⟨rfl, _, rfl⟩ := h2
    refine ⟨⟨by rw [List.length_take, h1]; exact Nat.min_eq_left (Nat.mul_le_mul_right _ hm), by omega⟩, .inr ⟨b, o, c, rfl, fun j u hj => h3 j u ?_⟩⟩
    rw [List.getElem?_take] at hj
    split at hj
    · exact hj
    · cases hj
/-! make with a capacity -/
theorem s_makeSlice0 [NoEx s] {t e : TypeId} {l c : Operand} {z : Value} {sz by_ : Nat} {m : Nat} {k1 k2 : IntKind} {M : Int} (ht : P.underlying t = some (.slice e)) (hy : Ty P e z sz by_) (hzs : z.cells.size = sz) (hsz : 0 < sz) (hl : ev ρ l = .int k1 0) (hc : ev ρ c = .int k2 M) (hM : M = (m : Int)) (hb : by_ * m ≤ 281474976710656) (hm : m ≤ 9223372036854775807)
    (H : Hd s w L) (k : ∀ b w', Hd s w' (Sl (.slice (some ⟨b, 0, none⟩) 0 m) e sz 0 [] :: L) → K (.slice (some ⟨b, 0, none⟩) 0 m) w') : St P ⟨d, .makeSlice t l c, ty, ps, af, g⟩ ρ w K := by
  subst hM
  obtain ⟨inf, hinf, hz, hsize, hbytes⟩ := hy
  refine ⟨trivial, ?_⟩
  obtain ⟨w', hrun0, hown, hgr⟩ := run_make_own (P := P) w 0 t e inf z sz ht hinf hz hsize k1 k2 m (by rw [hbytes]; exact hb) (by unfold maxLen; omega) (Nat.zero_le _)
  have hrun : (execOp (ev ρ) ⟨d, .makeSlice t l c, ty, ps, af, g⟩).run P w = .ok (.value (.slice (some ⟨w.heap.size, 0, none⟩) 0 m)) w' := by
    simp [execOp, hl, hc, hrun0, Sem.run_bind, Result.andThen, Sem.run_pure]
  rw [hrun]
  rcases hown.2 with ⟨h, _⟩ | ⟨gg, cap, cur, hv, _, hh, _, _, hcs, _⟩
  · cases h
  · simp only [Value.slice.injEq, Option.some.injEq, Addr.mk.injEq] at hv
    obtain ⟨⟨rfl, _⟩, _, rfl⟩ := hv
    have hext : Ext w w' := ⟨hgr.os, hgr.tape, hgr.output, hgr.size, fun k hk => hgr.block k hk (by simp)⟩
    refine k _ _ (Hd.weak (H.fresh hext (Nat.le_refl _) hh) fun h hp => ⟨⟨by simp, by omega⟩, .inr ⟨(w.heap.size, 0, m, cur), ⟨rfl, Nat.zero_le _, by simp [hcs], fun j u hj => by simp at hj⟩, hp⟩⟩)
/-! a range over a string -/
theorem s_rangeS {t : TypeId} {x : Operand} {st : ByteArray} (ht : P.underlying t = some .string) (hx : ev ρ x = .string st) (H : Hd s w L) (k : ∀ b w', Hd s w' (pt b (.stringIter st 0) :: L) → K (.pointer (some ⟨b, 0, none⟩)) w') : St P ⟨d, .range t x, ty, ps, af, g⟩ ρ w K := by
  refine ⟨trivial, ?_⟩
  have : (execOp (ev ρ) ⟨d, .range t x, ty, ps, af, g⟩).run P w = .ok (.value (.pointer (some ⟨w.heap.size, 0, none⟩))) (w.alloc (.stringIter st 0)) := by
    simp [execOp, Instr.range, hx, Sem.run_bind, run_under ht, Result.andThen, Sem.run_pure]
  rw [this]; exact k _ _ (H.alloc _)
theorem s_nextS {x : Operand} {st : ByteArray} {b p : Nat} (i : Nat) (hi : L[i]? = some (pt b (.stringIter st p))) (hx : ev ρ x = .pointer (some ⟨b, 0, none⟩)) (H : Hd s w L)
    (k1 : p < st.size → ∀ w', Hd s w' (L.set i (pt b (.stringIter st (p + (Utf8.decode st p).2)))) → K (.tuple #[.bool true, .int .i64 p, .int .i32 (Utf8.decode st p).1]) w')
    (k0 : ¬ p < st.size → K (.tuple #[.bool false]) w) : St P ⟨d, .next x true, ty, ps, af, g⟩ ρ w K := by
  refine ⟨trivial, ?_⟩
  have hb := H.obj i hi
  by_cases hp : p < st.size
  · have : (execOp (ev ρ) ⟨d, .next x true, ty, ps, af, g⟩).run P w = .ok (.value (.tuple #[.bool true, .int .i64 p, .int .i32 (Utf8.decode st p).1])) (w.putObj b (.stringIter st (p + (Utf8.decode st p).2))) := by
      simp only [execOp, Instr.next, hx, Sem.run_bind]
      simp [getObj, setObj, Sem.run, hb, hp, Sem.run_bind, Result.andThen, Sem.run_pure, goInt, World.putObj]
    rw [this]; exact k1 hp _ (H.putObj i hi _)
  · have : (execOp (ev ρ) ⟨d, .next x true, ty, ps, af, g⟩).run P w = .ok (.value (.tuple #[.bool false])) w := by
      simp only [execOp, Instr.next, hx, Sem.run_bind]
      simp [getObj, Sem.run, hb, hp, Sem.run_bind, Result.andThen, Sem.run_pure]
    rw [this]; exact k0 hp
end
/-! signs -/
theorem decode_ascii {st : ByteArray} {p : Nat} (hp : p < st.size) (h : st[p].toNat < 128) : Utf8.decode st p = (st[p].toNat, 1) := by
  have hg : (st.get! p).toNat = st[p].toNat := by
    have : st.get! p = st[p] := by
      show st.data[p]! = st.data[p]
      rw [getElem!_pos st.data p hp]
    rw [this]
  unfold Utf8.decode
  simp [hg, h]
theorem decode_high {st : ByteArray} {p : Nat} (hp : p < st.size) (h : ¬ st[p].toNat < 128) : 128 ≤ (Utf8.decode st p).1 ∧ (Utf8.decode st p).1 ≤ 1114111 := by
  have hg : (st.get! p).toNat = st[p].toNat := by
    have : st.get! p = st[p] := by
      show st.data[p]! = st.data[p]
      rw [getElem!_pos st.data p hp]
    rw [this]
  have hg' : (st.get! (p + 0)).toNat = st[p].toNat := hg
  have m1 := Nat.mod_lt (st.get! (p + 1)).toNat (show 0 < 64 by omega)
  have m2 := Nat.mod_lt (st.get! (p + 2)).toNat (show 0 < 64 by omega)
  have m3 := Nat.mod_lt (st.get! (p + 3)).toNat (show 0 < 64 by omega)
  unfold Utf8.decode
  dsimp only
  have h0 : ¬ (st.get! (p + 0)).toNat < 128 := by rw [hg']; exact h
  have b1 : (st.get! (p + 0)).toNat % 32 < 32 := Nat.mod_lt _ (by omega)
  have b2 : (st.get! (p + 0)).toNat % 16 < 16 := Nat.mod_lt _ (by omega)
  have b3 : (st.get! (p + 0)).toNat % 8 < 8 := Nat.mod_lt _ (by omega)
  rw [if_neg h0]
  split
  · split
    · rename_i hc; exact ⟨hc, by dsimp only; omega⟩
    · exact ⟨by unfold Utf8.runeError; omega, by unfold Utf8.runeError; omega⟩
  · split
    · split
      · rename_i hc
        rw [Bool.and_eq_true] at hc
        have := of_decide_eq_true hc.1
        exact ⟨by dsimp only; omega, by dsimp only; omega⟩
      · exact ⟨by unfold Utf8.runeError; omega, by unfold Utf8.runeError; omega⟩
    · split
      · split
        · rename_i hc
          rw [Bool.and_eq_true] at hc
          have h1 := of_decide_eq_true hc.1
          have h2 := hc.2
          unfold Utf8.valid at h2
          rw [Bool.or_eq_true, Bool.and_eq_true, Bool.and_eq_true] at h2
          refine ⟨by dsimp only; omega, ?_⟩
          rcases h2 with h2 | h2
          · have := of_decide_eq_true h2.2; dsimp only; omega
          · have := of_decide_eq_true h2.2; dsimp only; omega
        · exact ⟨by unfold Utf8.runeError; omega, by unfold Utf8.runeError; omega⟩
      · exact ⟨by unfold Utf8.runeError; omega, by unfold Utf8.runeError; omega⟩
end KE
namespace KE
open Go Go.RowKit
/-- a slice of one-cell values that reads as a list -/
def RdL {α : Type} (w : World) (v : Value) (f : α → Value) (xs : List α) : Prop := RdC w v 1 xs.length (xs.map f)
theorem RdL.le {α : Type} {w : World} {v : Value} {f : α → Value} {xs : List α} (h : RdL w v f xs) : xs.length ≤ 140737488355328 := h.1.2
theorem RdL.shape {α : Type} {w : World} {v : Value} {f : α → Value} {xs : List α} (h : RdL w v f xs) : ∃ a c, v = .slice a xs.length c := RdC.shape h
theorem RdL.ext {α : Type} {w w' : World} {v : Value} {f : α → Value} {xs : List α} (h : RdL w v f xs) (e : Ext w w') : RdL w' v f xs := RdC.ext h e
theorem RdL.el {α : Type} {w : World} {a : Option Addr} {n c i : Nat} {f : α → Value} {xs : List α} {x : α} (h : RdL w (.slice a n c) f xs) (hx : xs[i]? = some x) : ∃ b o, a = some ⟨b, o, none⟩ ∧ w.cell? ⟨b, o + i * 1, none⟩ = some (f x) := by
  obtain ⟨h1, ⟨h2, _⟩ | ⟨b, o, c', h2, h3⟩⟩ := h
  · have := (List.getElem?_eq_some_iff.1 hx).1; omega
  · simp only [Value.slice.injEq] at h2
    obtain ⟨rfl, _, rfl⟩ := h2
    refine ⟨b, o, rfl, ?_⟩
    rw [Nat.mul_one]
    exact h3 i _ (by rw [List.getElem?_map, hx]; rfl)
theorem Old.rdL {α : Type} {w0 w : World} (h : Old w0 w) {v : Value} {f : α → Value} {xs : List α} (hr : RdL w0 v f xs) : RdL w v f xs := h.rdC hr
theorem lt_get {α : Type} {xs : List α} {k : Nat} (h : k < xs.length) : ∃ x, xs[k]? = some x := ⟨_, List.getElem?_eq_getElem h⟩
theorem list_eq {α : Type} {xs ys : List α} (hl : xs.length = ys.length) (h : ∀ j, j < xs.length → xs[j]? = ys[j]?) : xs = ys := by
  apply List.ext_getElem?
  intro j
  by_cases hj : j < xs.length
  · exact h j hj
  · rw [List.getElem?_eq_none (by omega), List.getElem?_eq_none (by omega)]
section
variable {P : Program} {b : Frame} {a : Act} {k : List Item} {cs : List Frame} {w : World}
theorem stepR_scope {c : Code} : step P (lone (b.atR a (.code (.scope c) :: k)) cs w) = .next (lone (b.atR a (.code c :: .inScope c :: k)) cs w) :=
  step_lone_go (by simp [stepG, stepG.exec, Frame.atR])
theorem stepR_inScope {c : Code} : step P (lone (b.atR a (.inScope c :: k)) cs w) = .next (lone (b.atR a k) cs w) :=
  step_lone_go (by simp [stepG, stepG.exec, Frame.atR])
end
def scopeE (Q : QE) : QE
  | .goto _ => fun _ _ _ => False
  | e => Q e
theorem WC.scope {P : Program} {r : Option Nat} {N : Nat} {Q : QE} {ρ : Nat → Value} {ds : List Nat} {w : World} {c : Code} (h : WC P r N c (scopeE Q) ρ ds w) : WC P r N (.scope c) Q ρ ds w := fun a ha => by
  intro b k cs hro hb hr
  have h0 : (lone (b.atR a (.code (.scope c) :: k)) cs w).fenced P (Fe r) := fenced_calm hb hr rfl
  obtain ⟨e, a₁, w₁, ⟨ρ', ds', f, q⟩, harr⟩ := h a ha b (.inScope c :: k) cs hro hb hr
  have hx : ∀ id, exitTo id (.inScope c :: k) = exitTo id k := fun id => by simp [exitTo]
  cases e with
  | normal => exact ⟨.normal, a₁, w₁, ⟨ρ', ds', f, q⟩, .head h0 stepR_scope (StepsIn.trans harr (.one (fenced_calm hb hr rfl) stepR_inScope))⟩
  | exit id => exact ⟨.exit id, a₁, w₁, ⟨ρ', ds', f, q⟩, fun k' hk => .head h0 stepR_scope (harr.1 k' (by rw [hx]; exact hk)),
      fun hr' hk => let ⟨k₁, h1, h2⟩ := harr.2 hr' (by rw [hx]; exact hk); ⟨k₁, h1, .head h0 stepR_scope h2⟩⟩
  | goto l => exact q.elim
  | ret => exact ⟨_, a₁, w₁, ⟨ρ', ds', f, q⟩, .of_steps (.one h0 stepR_scope) harr⟩
  | panic ch => exact ⟨_, a₁, w₁, ⟨ρ', ds', f, q⟩, .of_steps (.one h0 stepR_scope) harr⟩
  | outgrown => exact ⟨_, a₁, w₁, ⟨ρ', ds', f, q⟩, .of_steps (b := b) (k := k) (cs := cs) (e := .outgrown) (.one h0 stepR_scope) harr⟩
section
variable {P : Program} {w : World} {ρ : Nat → Value} {d : Option Tmp} {ty : TypeId} {ps : String} {af : Array Edge} {g : Option (Nat × Bool)} {s : Sy} {L : List Hp} {K : Value → World → Prop}
theorem x_build {t : TypeId} {fs : Array Field} {parts : Array (Nat × Operand)} {z : Value} {sz by_ : Nat} {places : Array (Nat × Nat)} {cells : Array Value} (ht : P.underlying t = some (.struct fs)) (hy : Ty P t z sz by_)
    (hpl : ∀ w, (fs.mapM (fun (f : Field) => (do pure (f.offset, ← Go.sizeOf f.type) : Sem (Nat × Nat)))).run P w = .ok places w) (hf : Instr.fill (places[·]?) z.cells (parts.map fun p => (p.1, ev ρ p.2)).toList = some cells) :
    (execOp (ev ρ) ⟨d, .build t parts, ty, ps, af, g⟩).run P w = .ok (.value (.agg cells)) w := by
  simp only [execOp, Instr.build, Sem.run_bind, hy.zero, run_under ht, Result.andThen, hpl]
  rw [hf]
  simp [Sem.run_pure]
theorem eql_fn_nil {t : TypeId} {ps' rs : Array TypeId} {v : Bool} {fn : Fn} {c1 c2 : Array Value} (ht : P.underlying t = some (.func ps' rs v)) : (Op.equal t (.func fn c1 c2) .nilFunc).run P w = .ok false w := by
  have : ∀ n, (Op.equalIn (n + 1) t (.func fn c1 c2) .nilFunc).run P w = .ok false w := fun n => by
    simp [Op.equalIn, Sem.run_bind, run_under ht, Result.andThen, Sem.run_pure]
  exact this 9999
theorem x_eqlFN {t t2 : TypeId} {x : Operand} {ps' rs : Array TypeId} {v : Bool} {fn : Fn} {c1 c2 : Array Value} (ht : P.underlying t = some (.func ps' rs v)) (hx : ev ρ x = .func fn c1 c2) : (execOp (ev ρ) ⟨d, .binOp .eql t x (.const .nilFunc) t2, ty, ps, af, g⟩).run P w = .ok (.value (.bool false)) w := by
  refine x_cmp (b := .nilFunc) hx rfl (by simp [eqGuard, Sem.run_pure]) ?_
  simp [binOp, Sem.run_bind, eql_fn_nil (P := P) (w := w) ht, Result.andThen, Sem.run_pure]
/-- bytes become a text -/
theorem bytes_loop (vs : List Int) (hv : ∀ v ∈ vs, 0 ≤ v ∧ v < 256) : ∀ (acc : ByteArray) (w : World), (forIn (m := Sem) (vs.map fun v => Value.int .u8 v).toArray acc (fun c s => do
      let .int .u8 n := c | stuck "bytesToString: byte expected"
      pure (.yield (s.push (UInt8.ofNat n.toNat))))).run P w = .ok (vs.foldl (fun s v => s.push (UInt8.ofNat v.toNat)) acc) w := by
  intro acc w
  rw [← Array.forIn_toList]
  simp only []
  induction vs generalizing acc with
  | nil => rfl
  | cons v vs ih =>
    simp only [List.map_cons, List.forIn_cons, Sem.run_bind, Sem.run_pure, Result.andThen, List.foldl_cons]
    exact ih (fun u hu => hv u (List.mem_cons_of_mem _ hu)) _
theorem x_convBS {t u e : TypeId} {x : Operand} {v : Value} {n : Nat} {vs : List Int} (ht : P.underlying t = some (.slice e)) (he : P.underlying e = some (.int .u8)) (hu : P.underlying u = some .string) (hx : ev ρ x = v) (hr : RdL w v (.int .u8) vs) (hv : ∀ v ∈ vs, 0 ≤ v ∧ v < 256) :
    (execOp (ev ρ) ⟨d, .convert t u x, ty, ps, af, g⟩).run P w = .ok (.value (.string (vs.foldl (fun s v => s.push (UInt8.ofNat v.toNat)) ByteArray.empty))) w := by
  subst hx
  obtain ⟨⟨h1, hb⟩, ⟨h2, a, c, h3⟩ | ⟨b, o, c, h3, h4⟩⟩ := hr
  · have : vs = [] := List.eq_nil_of_length_eq_zero h2
    subst this
    cases a with
    | none => simp [execOp, convert, Sem.run_bind, run_under ht, run_under hu, run_under he, h3, Result.andThen, Conv.bytesToString, Sem.run_pure]
    | some a =>
      simp [execOp, convert, Sem.run_bind, run_under ht, run_under hu, run_under he, h3, Result.andThen, Conv.bytesToString, loadCells, loadCellsFrom, Sem.run_pure]
  · have hl := run_loadCells (P := P) (w := w) (a := ⟨b, o, none⟩) (vs := vs.map (.int .u8)) (n := vs.length) (by simp) (fun j u hj => by rw [add_plain]; exact h4 j u hj)
    have hloop := bytes_loop (P := P) vs hv ByteArray.empty w
    simp only [execOp, convert, Sem.run_bind, run_under ht, run_under hu, run_under he, h3, Result.andThen, Conv.bytesToString, hl, Sem.run_pure]
    have e1 : (vs.map (Value.int .u8)).toArray = (vs.map fun v => Value.int .u8 v).toArray := rfl
    rw [e1]
    erw [hloop]
end
end KE
namespace KE
open Go Go.RowKit
section
variable {P : Program} {w : World} {ρ : Nat → Value} {d : Option Tmp} {ty : TypeId} {ps : String} {af : Array Edge} {g : Option (Nat × Bool)} {s : Sy} {L : List Hp} {K : Value → World → Prop}
theorem s_build1 {t e : TypeId} {x : Operand} {z u : Value} {by_ : Nat} (ht : P.underlying t = some (.slice e)) (hy : Ty P e z 1 by_) (hz : z.cells.size = 1) (hx : ev ρ x = u) (h1 : oneC u = true)
    (H : Hd s w L) (k : ∀ b w', Hd s w' (Sl (.slice (some ⟨b, 0, none⟩) 1 1) e 1 1 [u] :: L) → K (.slice (some ⟨b, 0, none⟩) 1 1) w') : St P ⟨d, .buildSlice t 1 #[(0, x)], ty, ps, af, g⟩ ρ w K := by
  have hc : u.cells = #[u] := by cases u <;> first | rfl | (simp [Value.oneCell'] at h1)
  refine s_buildSlice (cells := #[u]) ht hy (by omega) (by omega) ?_ rfl H k
  simp [hx, Instr.fill, hc]
  apply Array.ext
  · simp
  · intro i h1 h2
    have : i = 0 := by simp at h2; omega
    subst this; simp
theorem s_build1A {t e : TypeId} {x : Operand} {z : Value} {vs : List Value} {sz by_ : Nat} (ht : P.underlying t = some (.slice e)) (hy : Ty P e z sz by_) (hz : z.cells.size = sz) (hs0 : 0 < sz) (hs1 : sz ≤ 1000) (hx : ev ρ x = .agg vs.toArray) (hn : vs.length = sz)
    (H : Hd s w L) (k : ∀ b w', Hd s w' (Sl (.slice (some ⟨b, 0, none⟩) 1 1) e sz 1 vs :: L) → K (.slice (some ⟨b, 0, none⟩) 1 1) w') : St P ⟨d, .buildSlice t 1 #[(0, x)], ty, ps, af, g⟩ ρ w K := by
  refine s_buildSlice (cells := vs.toArray) ht hy (by omega) (by omega) ?_ (by simp [hn]) H (by simpa using k)
  have key : ∀ (vs : List Value) (off : Nat) (cs : Array Value), off + vs.length = cs.size → (vs.zipIdx.foldl (fun (cs : Array Value) (p : Value × Nat) => cs.setIfInBounds (off + p.2) p.1) cs) = (cs.toList.take off ++ vs).toArray := by
    intro vs
    have gen : ∀ (vs : List Value) (k off : Nat) (cs : Array Value), off + k + vs.length = cs.size → ((vs.zipIdx k).foldl (fun (cs : Array Value) (p : Value × Nat) => cs.setIfInBounds (off + p.2) p.1) cs) = (cs.toList.take (off + k) ++ vs).toArray := by
      intro vs
      induction vs with
      | nil =>
        intro k off cs h
        simp only [List.zipIdx_nil, List.foldl_nil, List.append_nil]
        rw [List.take_of_length_le (by simp at h ⊢; omega)]
      | cons v vs ih =>
        intro k off cs h
        simp only [List.zipIdx_cons, List.foldl_cons]
        rw [ih (k + 1) off _ (by simp at h ⊢; omega)]
        congr 1
        simp only [Array.toList_setIfInBounds]
        have hlt : off + k < cs.toList.length := by simp at h ⊢; omega
        rw [show off + (k + 1) = off + k + 1 from by omega, List.take_succ_eq_append_getElem (by simpa using hlt)]
        simp [List.take_set]
        exact List.set_eq_of_length_le (by rw [List.length_take]; omega)
    intro off cs h
    have := gen vs 0 off cs (by simpa using h)
    simpa using this
  have hI : ((Array.range (1 * sz)).map fun x => z.cells[x % z.cells.size]!).size = sz := by simp
  generalize ((Array.range (1 * sz)).map fun x => z.cells[x % z.cells.size]!) = I at hI
  simp only [List.map_toArray, List.map_cons, List.map_nil, hx]
  show (if (decide (vs.toArray.size ≠ sz) || decide (0 * sz + vs.toArray.size > I.size)) = true then none else Instr.fill (fun i => some (i * sz, sz)) (vs.toArray.zipIdx.foldl (fun (cs : Array Value) (p : Value × Nat) => cs.setIfInBounds (0 * sz + p.2) p.1) I) []) = some vs.toArray
  rw [if_neg (by simp [hn, hI]), ← Array.foldl_toList]
  simp only [Nat.zero_mul, Array.toList_zipIdx, Instr.fill]
  rw [key vs 0 I (by simp [hn, hI])]
  simp
theorem x_look {κ : Type} [DecidableEq κ] {kt : TypeId} {t et : TypeId} {x y : Operand} {m : Nat} {es : Array MapEntry} {cl : Nat} {l : List (κ × Value)} {k : κ} {z : Value} {sz by_ : Nat} {c : Bool} {rr : Option Value} (T : KT P kt κ) (ht : P.underlying t = some (.map kt et)) (hy : Ty P et z sz by_) (hx : ev ρ x = .map (some m)) (hk : ev ρ y = T.kv k) (hm : w.heap[m]? = some (.map es cl)) (hv : MV T.kv es l) (hr : alook k l = rr) :
    (execOp (ev ρ) ⟨d, .lookup t x y c, ty, ps, af, g⟩).run P w = .ok (.value (lkV c z rr)) w := by subst hr; exact x_lookup T ht hy hx hk hm hv
end
section
variable {P : Program} {w : World} {ρ : Nat → Value} {d : Option Tmp} {ty : TypeId} {ps : String} {af : Array Edge} {g : Option (Nat × Bool)} {s : Sy} {L : List Hp} {K : Value → World → Prop}
theorem blockE_n {id : Nat} {Q : QE} {ds : List Nat} (h : Q .normal ρ ds w) : blockE id Q .normal ρ ds w := h
def strIt (w : World) (v : Value) : Nat := match v with | .pointer (some a) => (match w.heap[a.block]? with | some (.stringIter _ p) => p | _ => 0) | _ => 0
theorem strIt_eq {w : World} {b p : Nat} {x : ByteArray} (h : w.heap[b]? = some (.stringIter x p)) : strIt w (.pointer (some ⟨b, 0, none⟩)) = p := by simp [strIt, h]
theorem cells_one {u : Value} (h1 : oneC u = true) : u.cells = #[u] := by cases u <;> first | rfl | (simp [Value.oneCell'] at h1)
theorem fill_list : ∀ (vs : List Value) (k : Nat) (cs : Array Value), cs.size = k + vs.length → (∀ v ∈ vs, oneC v = true) →
    Instr.fill (fun i => some (i * 1, 1)) cs ((vs.zipIdx k).map fun p => (p.2, p.1)) = some (cs.toList.take k ++ vs).toArray
  | [], k, cs, hs, _ => by
    simp only [List.zipIdx_nil, List.map_nil, Instr.fill, List.append_nil]
    rw [List.take_of_length_le (by simp at hs ⊢; omega)]
  | v :: vs, k, cs, hs, h1 => by
    have hc := cells_one (h1 v List.mem_cons_self)
    have ih := fill_list vs (k + 1) (cs.setIfInBounds k v) (by simp at hs ⊢; omega) (fun u hu => h1 u (List.mem_cons_of_mem _ hu))
    simp only [List.zipIdx_cons, List.map_cons, Instr.fill]
    rw [hc]
    have : ¬ (k * 1 + 1 > cs.size) := by simp at hs; omega
    simp only [Array.size_singleton, Nat.mul_one]
    simp [show ¬ (k + 1 > cs.size) from by simp at hs; omega]
    simp at ih
    rw [ih]
    have hlt : k < cs.toList.length := by simp at hs ⊢; omega
    congr 2
    rw [List.take_succ_eq_append_getElem (by simpa using hlt)]
    simp [List.take_set]
    exact List.set_eq_of_length_le (by rw [List.length_take]; omega)
theorem s_buildN {t e : TypeId} {n : Nat} {parts : Array (Nat × Operand)} {xs : List Operand} {z : Value} {vs : List Value} {by_ : Nat} (ht : P.underlying t = some (.slice e)) (hy : Ty P e z 1 by_) (hz : z.cells.size = 1)
    (hp : parts = (xs.zipIdx.map fun p => (p.2, p.1)).toArray) (hv : xs.map (ev ρ) = vs) (hn : n = vs.length) (hn0 : 0 < n) (hn1 : n ≤ 1000) (h1 : ∀ v ∈ vs, oneC v = true)
    (H : Hd s w L) (k : ∀ b w', Hd s w' (Sl (.slice (some ⟨b, 0, none⟩) n n) e 1 n vs :: L) → K (.slice (some ⟨b, 0, none⟩) n n) w') : St P ⟨d, .buildSlice t n parts, ty, ps, af, g⟩ ρ w K := by
  subst hp
  refine s_buildSlice (cells := vs.toArray) ht hy (by omega) (by omega) ?_ (by simp [hn]) H (by simpa using k)
  have hI : ((Array.range (n * 1)).map fun x => z.cells[x % z.cells.size]!).size = n := by simp
  generalize ((Array.range (n * 1)).map fun x => z.cells[x % z.cells.size]!) = I at hI
  have hq : ((xs.zipIdx.map fun p => (p.2, p.1)).toArray.map fun (i, x) => (i, ev ρ x)).toList = (vs.zipIdx 0).map fun p => (p.2, p.1) := by
    subst hv
    simp only [List.map_toArray, List.map_map]
    have : ∀ (xs : List Operand) (k : Nat), (xs.zipIdx k).map ((fun (p : Nat × Operand) => (p.1, ev ρ p.2)) ∘ fun p => (p.2, p.1)) = ((xs.map (ev ρ)).zipIdx k).map fun p => (p.2, p.1) := by
      intro xs
      induction xs with
      | nil => intro k; rfl
      | cons x xs ih => intro k; simp only [List.zipIdx_cons, List.map_cons, ih (k + 1)]; rfl
    exact this xs 0
  rw [hq, fill_list vs 0 I (by omega) h1]
  simp
theorem s_nextA {x : Operand} {st : ByteArray} {b p : Nat} (i : Nat) (hi : L[i]? = some (pt b (.stringIter st p))) (hx : ev ρ x = .pointer (some ⟨b, 0, none⟩)) (ha : ∀ (p : Nat) (h : p < st.size), st[p].toNat < 128) (H : Hd s w L)
    (k1 : ∀ (hp : p < st.size) w', Hd s w' (L.set i (pt b (.stringIter st (p + 1)))) → K (.tuple #[.bool true, .int .i64 p, .int .i32 (st[p].toNat : Nat)]) w')
    (k0 : ¬ p < st.size → K (.tuple #[.bool false]) w) : St P ⟨d, .next x true, ty, ps, af, g⟩ ρ w K :=
  s_nextS i hi hx H (fun hp w' H' => by
    have hd := decode_ascii hp (ha p hp)
    rw [hd] at H' ⊢
    exact k1 hp w' H') k0
theorem x_makeFuncL {f : Fn} {a c : List Operand} : (execOp (ev ρ) ⟨d, .makeFunc f a.toArray c.toArray, ty, ps, af, g⟩).run P w = .ok (.value (.func f (a.map (ev ρ)).toArray (c.map (ev ρ)).toArray)) w := by
  rw [x_makeFunc]; simp only [List.map_toArray]
theorem Hd.pure {φ : Prop} (hφ : φ) (H : Hd s w L) : Hd s w ((fun _ => φ) :: L) := by
  obtain ⟨h0, h, hs, hL⟩ := H
  refine ⟨h0, h, hs, fun _ => none, h, fun _ => .inl rfl, ?_, hφ, hL⟩
  funext i; simp [hor]
theorem s_build0 {t e : TypeId} {z : Value} {sz by_ : Nat} (ht : P.underlying t = some (.slice e)) (hy : Ty P e z sz by_)
    (H : Hd s w L) (k : ∀ b w', Hd s w' (Sl (.slice (some ⟨b, 0, none⟩) 0 0) e sz 0 [] :: L) → K (.slice (some ⟨b, 0, none⟩) 0 0) w') : St P ⟨d, .buildSlice t 0 #[], ty, ps, af, g⟩ ρ w K := by
  refine ⟨trivial, ?_⟩
  have : (execOp (ev ρ) ⟨d, .buildSlice t 0 #[], ty, ps, af, g⟩).run P w = .ok (.value (.slice (some ⟨w.heap.size, 0, none⟩) 0 0)) (w.alloc (.cells #[] e)) := by
    simp [execOp, Instr.buildSlice, Sem.run_bind, run_under ht, Result.andThen, Sem.run_pure, hy.size, Instr.fill, newRow]
    congr 2
    exact Array.eq_empty_of_size_eq_zero (by simp)
  rw [this]
  exact k _ _ (Hd.weak (H.alloc _) fun h hp => ⟨⟨by simp, by omega⟩, .inr ⟨(w.heap.size, 0, 0, #[]), ⟨rfl, Nat.le_refl _, by simp, fun j u hj => by simp at hj⟩, hp⟩⟩)
def fillL (place : Nat → Option (Nat × Nat)) : List Value → List (Nat × Value) → Option (List Value)
  | cs, [] => some cs
  | cs, (i, v) :: rest => match place i with
    | none => none
    | some (off, size) => bif Nat.beq v.cells.toList.length size && Nat.ble (off + v.cells.toList.length) cs.length then fillL place (cs.take off ++ v.cells.toList ++ cs.drop (off + v.cells.toList.length)) rest else none
theorem set_run : ∀ (vs : List Value) (k off : Nat) (cs : List Value), off + k + vs.length ≤ cs.length →
    (vs.zipIdx k).foldl (fun (cs : Array Value) (p : Value × Nat) => cs.setIfInBounds (off + p.2) p.1) cs.toArray = (cs.take (off + k) ++ vs ++ cs.drop (off + k + vs.length)).toArray
  | [], k, off, cs, h => by simp
  | v :: vs, k, off, cs, h => by
    simp only [List.length_cons] at h
    simp only [List.zipIdx_cons, List.foldl_cons, List.setIfInBounds_toArray]
    rw [set_run vs (k + 1) off _ (by simp; omega)]
    congr 1
    have hlt : off + k < (cs.set (off + k) v).length := by simp; omega
    rw [show off + (k + 1) = off + k + 1 from by omega, List.take_succ_eq_append_getElem hlt]
    simp only [List.getElem_set_self, List.take_set, List.length_cons]
    rw [List.set_eq_of_length_le (by rw [List.length_take]; omega), List.drop_set_of_lt (by omega)]
    simp [Nat.add_assoc, Nat.add_comm 1 vs.length]
theorem fill_fillL (place : Nat → Option (Nat × Nat)) : ∀ (ps : List (Nat × Value)) (cs : List Value), Instr.fill place cs.toArray ps = (fillL place cs ps).map List.toArray
  | [], cs => rfl
  | (i, v) :: ps, cs => by
    simp only [Instr.fill, fillL]
    cases place i with
    | none => rfl
    | some q =>
      obtain ⟨off, size⟩ := q
      simp only
      cases h1 : Nat.beq v.cells.toList.length size with
      | false =>
        have : v.cells.size ≠ size := fun e => by have := Nat.beq_refl size; simp only [Array.length_toList, e] at h1; rw [this] at h1; cases h1
        simp [this]
      | true =>
        have h1' : v.cells.size = size := by have := Nat.eq_of_beq_eq_true h1; simpa using this
        cases h2 : Nat.ble (off + v.cells.toList.length) cs.length with
        | false =>
          have : cs.length < off + v.cells.size := Nat.lt_of_not_le fun hl => by have := Nat.ble_eq_true_of_le hl; simp only [Array.length_toList] at h2; rw [this] at h2; cases h2
          simp [this]
        | true =>
          have h2' : off + v.cells.size ≤ cs.length := by have := Nat.le_of_ble_eq_true h2; simpa using this
          have := set_run v.cells.toList 0 off cs (by simpa using h2')
          simp only [Nat.add_zero] at this
          rw [if_neg (by simp [h1', Nat.not_lt.2 (h1' ▸ h2')])]
          simp only [Bool.and_self, cond_true]
          rw [← fill_fillL place ps, ← this, ← Array.foldl_toList, Array.toList_zipIdx]
theorem x_buildL {t : TypeId} {fs : List Field} {parts : List (Nat × Operand)} {z : Value} {sz by_ : Nat} {pl : List (Nat × Nat)} {cells : List Value} (ht : P.underlying t = some (.struct fs.toArray)) (hy : Ty P t z sz by_)
    (hpl : fs.map (fun f => (P.info? f.type).map (fun i => (f.offset, i.size))) = pl.map some) (hf : fillL (pl[·]?) z.cells.toList (parts.map fun p => (p.1, ev ρ p.2)) = some cells) :
    (execOp (ev ρ) ⟨d, .build t parts.toArray, ty, ps, af, g⟩).run P w = .ok (.value (.agg cells.toArray)) w := by
  have hz := hy
  refine x_build (places := pl.toArray) ht hy (fun w => ?_) ?_
  · clear hf ht
    rw [List.mapM_toArray]
    have : ∀ (fs : List Field) (pl : List (Nat × Nat)), fs.map (fun f => (P.info? f.type).map (fun i => (f.offset, i.size))) = pl.map some → (fs.mapM (fun (f : Field) => (do pure (f.offset, ← Go.sizeOf f.type) : Sem (Nat × Nat)))).run P w = .ok pl w := by
      intro fs
      induction fs with
      | nil => intro pl h; cases pl with
        | nil => simp [Sem.run_pure]
        | cons => simp at h
      | cons f fs ih =>
        intro pl h
        cases pl with
        | nil => simp at h
        | cons p pl =>
          simp only [List.map_cons, List.cons.injEq] at h
          obtain ⟨i, hi, he⟩ := Option.map_eq_some_iff.1 h.1
          have hs : (Go.sizeOf f.type).run P w = .ok i.size w := by
            have hb : Ty P f.type (i.zero.getD undef) i.size i.bytes ∨ True := .inr trivial
            simp [Go.sizeOf, typeInfo, Sem.run_bind, run_program, Result.andThen, hi, Sem.run_pure]
          simp only [List.mapM_cons, Sem.run_bind, hs, Result.andThen, Sem.run_pure, ih pl h.2, he]
    simp only [Sem.run_bind, Sem.run_map, this fs pl hpl, Result.andThen]
  · have h1 : (fun (x : Nat) => pl.toArray[x]?) = fun x => pl[x]? := funext fun x => by simp
    rw [h1, List.map_toArray, ← Array.toArray_toList (xs := z.cells), fill_fillL]
    simp only [hf, Option.map_some]
theorem Hd.starAt (A : List Hp) {p q : Hp} (H : Hd s w (A ++ (p :: q :: L))) : Hd s w (A ++ (KE.star p q :: L)) := by
  have h1 : (A ++ (p :: q :: L)).Perm (p :: q :: (A ++ L)) := List.perm_middle.trans (List.perm_middle.cons p)
  exact ((H.perm h1).star).perm List.perm_middle.symm
theorem Hd.unstarAt (A : List Hp) {p q : Hp} (H : Hd s w (A ++ (KE.star p q :: L))) : Hd s w (A ++ (p :: q :: L)) := by
  have h1 : (A ++ (p :: q :: L)).Perm (p :: q :: (A ++ L)) := List.perm_middle.trans (List.perm_middle.cons p)
  exact ((H.perm List.perm_middle).unstar).perm h1.symm
theorem Hd.swp {p q : Hp} (H : Hd s w (p :: q :: L)) : Hd s w (q :: p :: L) := H.perm (List.Perm.swap _ _ _)
theorem Hd.dropAt (A : List Hp) {p : Hp} (H : Hd s w (A ++ (p :: L))) : Hd s w (A ++ L) := (H.perm List.perm_middle).drop
theorem Hd.front (A : List Hp) {p : Hp} (H : Hd s w (A ++ (p :: L))) : Hd s w (p :: (A ++ L)) := H.perm List.perm_middle
theorem Hd.ins (A : List Hp) {p : Hp} (H : Hd s w (p :: (A ++ L))) : Hd s w (A ++ (p :: L)) := H.perm List.perm_middle.symm
theorem equal_bool {t : TypeId} {a b : Bool} (ht : P.underlying t = some .bool) : (Op.equal t (.bool a) (.bool b)).run P w = .ok (a == b) w := by
  have : ∀ n, (Op.equalIn (n + 1) t (.bool a) (.bool b)).run P w = .ok (a == b) w := fun n => by
    simp [Op.equalIn, Sem.run_bind, run_under ht, Result.andThen, Sem.run_pure]
  exact this 9999
theorem x_neqB {t t2 : TypeId} {x y : Operand} {a b : Bool} (ht : P.underlying t = some .bool) (hx : ev ρ x = .bool a) (hy : ev ρ y = .bool b) : (execOp (ev ρ) ⟨d, .binOp .neq t x y t2, ty, ps, af, g⟩).run P w = .ok (.value (.bool (decide (a ≠ b)))) w := by
  refine x_cmp hx hy (by simp [eqGuard, Sem.run_pure]) ?_
  simp [binOp, Sem.run_bind, equal_bool (P := P) (w := w) ht, Result.andThen, Sem.run_pure]
  cases a <;> cases b <;> rfl
theorem x_eqlB {t t2 : TypeId} {x y : Operand} {a b : Bool} (ht : P.underlying t = some .bool) (hx : ev ρ x = .bool a) (hy : ev ρ y = .bool b) : (execOp (ev ρ) ⟨d, .binOp .eql t x y t2, ty, ps, af, g⟩).run P w = .ok (.value (.bool (decide (a = b)))) w := by
  refine x_cmp hx hy (by simp [eqGuard, Sem.run_pure]) ?_
  simp [binOp, Sem.run_bind, equal_bool (P := P) (w := w) ht, Result.andThen, Sem.run_pure]
  cases a <;> cases b <;> rfl
theorem Hd.oldIn {w0 : World} (H : Hd s w L) (h : fr w0 ∈ L) : Old w0 w := by
  obtain ⟨i, hi⟩ := List.getElem?_of_mem h
  exact H.old i hi
/-- the list's front, put in another order, or some of it left out -/
theorem Hd.arrT (A : List Hp) (ix : List Nat) (hn : ix.Nodup) (hl : (ix.all fun i => Nat.blt i A.length) = true) (H : Hd s w (A ++ L)) : Hd s w (ix.map (fun i => A.getD i (fun _ => True)) ++ L) := by
  have hl : ∀ i ∈ ix, i < A.length := fun i hi => blt_lt (List.all_eq_true.1 hl i hi)
  have h1 : Hd s w (KE.sep L :: A) := (H.perm List.perm_append_comm).sep
  have h2 := h1.arr (0 :: ix.map (· + 1)) (by
    rw [List.nodup_cons]
    refine ⟨fun h => ?_, ?_⟩
    · obtain ⟨x, _, hx⟩ := List.mem_map.1 h; omega
    · rw [List.nodup_iff_pairwise_ne] at hn ⊢
      exact List.Pairwise.map _ (fun a b h => by omega) hn) (by
    intro i hi
    rcases List.mem_cons.1 hi with rfl | hi
    · simp
    · obtain ⟨x, hx, rfl⟩ := List.mem_map.1 hi
      have := hl x hx
      simp; omega)
  simp only [List.map_cons, List.map_map] at h2
  have h3 := h2.unsep
  exact h3.perm List.perm_append_comm
/-- a slice's spare places, taken as its own -/
theorem Hd.grow {a : Option Addr} {e : TypeId} {sz n c m : Nat} {cs : List Value} (H : Hd s w (Sl (.slice a n c) e sz n cs :: L)) (h0 : n ≤ m) (h1 : m ≤ c) (h2 : m ≤ 140737488355328) : ∃ cs', Hd s w (Sl (.slice a m c) e sz m cs' :: L) := by
  obtain ⟨h, hs, hL⟩ := H
  obtain ⟨h3, p, q, h4, h5, ⟨hl, hh⟩, h7⟩ := hL
  obtain ⟨hl, ⟨h8, h9⟩ | ⟨⟨g, o, c', all⟩, ⟨h8, h9, h10, h11⟩, h12⟩⟩ := (⟨hl, hh⟩ : Sl (.slice a n c) e sz n cs p)
  · cases h8
    have : m = 0 := by omega
    subst this
    exact ⟨[], h, hs, h3, p, q, h4, h5, ⟨⟨by simp, by omega⟩, .inl ⟨rfl, rfl⟩⟩, h7⟩
  · simp only [Value.slice.injEq] at h8
    obtain ⟨h8, -, h13⟩ := h8
    subst h13
    refine ⟨(all.toList.drop o).take (m * sz), h, hs, h3, p, q, h4, h5, ⟨⟨?_, h2⟩, .inr ⟨⟨g, o, c, all⟩, ⟨by rw [h8], h1, h10, ?_⟩, h12⟩⟩, h7⟩
    · rw [List.length_take, List.length_drop]
      have := Nat.mul_le_mul_right sz h1
      simp only at h10
      simp
      omega
    · intro j u hj
      rw [List.getElem?_take] at hj
      split at hj
      · simpa using hj
      · cases hj
theorem Hd.cap {a : Option Addr} {e : TypeId} {sz n c : Nat} {cs : List Value} (H : Hd s w L) (i : Nat) (hi : L[i]? = some (Sl (.slice a n c) e sz n cs)) : n ≤ c ∧ (a = none → c = 0) := by
  obtain ⟨h, _, hl, ⟨h8, h9⟩ | ⟨⟨g, o, c', all⟩, ⟨h8, h9, h10, h11⟩, h12⟩⟩ := H.fact_at i hi
  · cases h8; exact ⟨Nat.le_refl _, fun _ => rfl⟩
  · simp only [Value.slice.injEq] at h8
    obtain ⟨h8, -, rfl⟩ := h8
    exact ⟨h9, fun h => by rw [h] at h8; cases h8⟩
end
end KE
