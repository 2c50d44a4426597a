/-
  What functions of this seat do: contracts, proved by walks; each with the conditions that it names.
-/
import Derived.Test.YtpoahelomhjnaaaNW
import Derived.Test.YtpoahelomhjnaaaN0
set_option linter.unusedVariables false
set_option linter.unusedSimpArgs false
namespace Go.Proofs.Ytpoahelomhjnaaa
open Go Go.RowKit KE Go.Proofs
theorem ty29 : Ty Try.prog 29 (.slice none 0 0) 1 24 := Ty.of (by kernel_rfl)
theorem ty51 : Ty Try.prog 51 (.map none) 1 8 := Ty.of (by kernel_rfl)
theorem cal26 : Cal Try.prog 26 := ⟨_, Try.func26, rfl, by decide⟩
theorem cal34 : Cal Try.prog 34 := ⟨_, Try.func34, rfl, by decide⟩

theorem mem_at {ts : List ByteArray} {k : Nat} {x : ByteArray} (h : ts[k]? = some x) : x ∈ ts := List.mem_of_getElem? h
theorem no_at {ts : List ByteArray} {k : Nat} {x : ByteArray} (h : ts.length ≤ k) (he : ∀ j, j < k → ts[j]? ≠ some x) : ¬ x ∈ ts := fun hm => by
  obtain ⟨j, hj⟩ := List.getElem?_of_mem hm
  exact he j (by have := (List.getElem?_eq_some_iff.1 hj).1; omega) hj
theorem idx_at {ts : List ByteArray} {k : Nat} {x : ByteArray} (h : ts[k]? = some x) (he : ∀ j, j < k → ts[j]? ≠ some x) : ((ts.idxOf x : Nat) : Int) = (k : Int) := by
  have hm : ts.idxOf x < ts.length := List.idxOf_lt_length_of_mem (mem_at h)
  have h1 : ts[ts.idxOf x]? = some x := by rw [List.getElem?_eq_getElem hm, List.getElem_idxOf hm]
  have h2 : ¬ ts.idxOf x < k := fun hl => he _ hl h1
  have h3 : ¬ k < ts.idxOf x := fun hl => by
    have := List.not_of_lt_findIdx hl
    obtain ⟨hk, e⟩ := List.getElem?_eq_some_iff.1 h
    simp [e] at this
  omega
theorem c26 {B M : Nat} {v : Value} {f : Nat × Nat} (w : World) (hB : w.heap[B]? = some (.cells #[.map (some M), v] 53 f)) : CC Try.prog 26 [.pointer (some ⟨B, 0, none⟩)].toArray w (fun r w' => r = .bool true ∧ Ext w w') := by
  obtain ⟨w0, e0⟩ : ∃ w0, w0 = w := ⟨w, rfl⟩
  subst e0
  have H := Hd.start w0
  refine CC.of (N := 12) Try.func26 rfl rfl rfl ?_
  refine WC.seq ?_
  refine WC.region ?_
  refine l_rd rfl rfl (x_assign ev_c) ?_
  refine WL.nil ?_
  refine WC.seq ?_
  refine WC.region ?_
  refine l_rd rfl rfl (x_move (by conv => lhs; whnf)) ?_
  refine l_rd rfl rfl (x_neqPN Try.underlying25 rfl) ?_
  refine l_rd rfl rfl (x_move (by conv => lhs; whnf)) ?_
  refine l_gy (wantY rfl rfl rfl) rfl rfl (x_move (by conv => lhs; whnf)) ?_
  refine l_gy (wantY rfl rfl rfl) rfl rfl (x_nilCheck rfl) ?_
  refine l_gy (wantY rfl rfl rfl) rfl rfl (x_fieldAddr Try.underlying53 rfl rfl ty51 (by decide) rfl) ?_
  refine l_gy (wantY rfl rfl rfl) rfl rfl (x_load Try.underlying51 rfl rfl (cell_ofL ((H.old 0 rfl) _ _ hB) rfl)) ?_
  refine l_gy (wantY rfl rfl rfl) rfl rfl (x_neqMN Try.underlying51 rfl) ?_
  refine l_rd rfl rfl (x_pick1 rfl (by conv => lhs; whnf)) ?_
  refine l_rd rfl rfl (x_assign (by conv => lhs; whnf)) ?_
  refine WL.nil ?_
  refine WC.ret ?_
  refine atRet ?_
  exact RetM.one (v := .bool true) rfl rfl ⟨rfl, H.below 0 rfl⟩

theorem c17 {B : Nat} {ts : List ByteArray} (w : World) (hR : BookR w B ts) : CC Try.prog 17 [.pointer (some ⟨B, 0, none⟩)].toArray w (fun r w' => r = .int .i64 ts.length ∧ Ext w w') := by
  obtain ⟨w0, e0⟩ : ∃ w0, w0 = w := ⟨w, rfl⟩
  subst e0
  have H := Hd.start w0
  obtain ⟨hn, M, es, cl, v, f, hB, hM, hv, hr⟩ := hR
  obtain ⟨a, c, rfl⟩ := hr.shape
  have hle := hr.le
  refine CC.of (N := 11) Try.func17 rfl rfl rfl ?_
  refine WC.seq ?_
  refine WC.region ?_
  refine l_rd rfl rfl (x_assign ev_c) ?_
  refine WL.nil ?_
  refine WC.seq ?_
  refine WC.seq ?_
  refine WC.region ?_
  refine l_rd rfl rfl (x_move (by conv => lhs; whnf)) ?_
  refine l_st rfl (s_callL cal26 (c26 _ ((H.old 0 rfl) _ _ hB)) ?_)
  rintro _ w ⟨rfl, e1⟩
  have H := H.ext e1
  refine l_rd rfl rfl (x_not rfl) ?_
  refine WL.nil ?_
  refine WC.cond0 rfl ?_
  refine WC.skip ?_
  refine WC.seq ?_
  refine WC.region ?_
  refine l_rd rfl rfl (x_move (by conv => lhs; whnf)) ?_
  refine l_rd rfl rfl (x_nilCheck rfl) ?_
  refine l_rd rfl rfl (x_fieldAddr Try.underlying53 rfl rfl ty29 (by decide) rfl) ?_
  refine l_rd rfl rfl (x_load Try.underlying29 rfl rfl (cell_ofL ((H.old 0 rfl) _ _ hB) rfl)) ?_
  refine l_rd rfl rfl (x_lenSlice Try.underlying29 rfl rfl) ?_
  refine l_rd rfl rfl (x_assign (by conv => lhs; whnf)) ?_
  refine WL.nil ?_
  refine WC.ret ?_
  refine atRet ?_
  exact RetM.one rfl (by (conv => lhs; whnf); try rfl) (⟨rfl, H.below 0 rfl⟩)

theorem c12 {B : Nat} {ts : List ByteArray} {x : ByteArray} (w : World) (hR : BookR w B ts) : CC Try.prog 12 [.pointer (some ⟨B, 0, none⟩), S x].toArray w (fun r w' => r = .tuple #[I (fIdx ts x), .bool (decide (x ∈ ts))] ∧ Ext w w') := by
  obtain ⟨w0, e0⟩ : ∃ w0, w0 = w := ⟨w, rfl⟩
  subst e0
  have H := Hd.start w0
  obtain ⟨hn, M, es, cl, v, f, hB, hM, hv, hr⟩ := hR
  obtain ⟨a, c, rfl⟩ := hr.shape
  have hle := hr.le
  refine CC.of (N := 19) Try.func12 rfl rfl rfl ?_
  refine WC.seq ?_
  refine WC.region ?_
  refine l_rd rfl rfl (x_assign ev_c) ?_
  refine l_rd rfl rfl (x_assign ev_c) ?_
  refine WL.nil ?_
  refine WC.seq ?_
  refine WC.seq ?_
  refine WC.region ?_
  refine l_rd rfl rfl (x_move (by conv => lhs; whnf)) ?_
  refine l_st rfl (s_callL cal26 (c26 _ ((H.old 0 rfl) _ _ hB)) ?_)
  rintro _ w ⟨rfl, e1⟩
  have H := H.ext e1
  refine WL.nil ?_
  refine WC.cond1 rfl ?_
  by_cases hx : x ∈ ts
  ·
    refine WC.region ?_
    refine l_rd rfl rfl (x_move (by conv => lhs; whnf)) ?_
    refine l_rd rfl rfl (x_nilCheck rfl) ?_
    refine l_rd rfl rfl (x_fieldAddr Try.underlying53 rfl rfl ty51 (by decide) rfl) ?_
    refine l_rd rfl rfl (x_load Try.underlying51 rfl rfl (cell_ofL ((H.old 0 rfl) _ _ hB) rfl)) ?_
    refine l_rd rfl rfl (x_move (by conv => lhs; whnf)) ?_
    refine l_rd rfl rfl (x_look TS Try.underlying51 ty3 rfl rfl ((H.old 0 rfl) _ _ hM) hv ((alook_ents x ts).trans (if_pos hx))) ?_
    refine l_rd rfl rfl (x_move (by conv => lhs; whnf)) ?_
    refine l_rd rfl rfl (x_extract rfl rfl) ?_
    refine l_rd rfl rfl (x_extract rfl rfl) ?_
    refine l_rd rfl rfl (x_assign (by conv => lhs; whnf)) ?_
    refine l_rd rfl rfl (x_assign (by conv => lhs; whnf)) ?_
    refine WL.nil ?_
    refine WC.seq ?_
    refine WC.region ?_
    refine l_rd rfl rfl (x_move (by conv => lhs; whnf)) ?_
    refine l_rd rfl rfl (x_move (by conv => lhs; whnf)) ?_
    refine l_rd rfl rfl (x_assign (by conv => lhs; whnf)) ?_
    refine l_rd rfl rfl (x_assign (by conv => lhs; whnf)) ?_
    refine WL.nil ?_
    refine WC.ret ?_
    refine atRet ?_
    exact RetM.two rfl (by (conv => lhs; whnf); try rfl) (by (conv => lhs; whnf); try rfl) (⟨by rw [decide_eq_true hx], H.below 0 rfl⟩)
  ·
    refine WC.region ?_
    refine l_rd rfl rfl (x_move (by conv => lhs; whnf)) ?_
    refine l_rd rfl rfl (x_nilCheck rfl) ?_
    refine l_rd rfl rfl (x_fieldAddr Try.underlying53 rfl rfl ty51 (by decide) rfl) ?_
    refine l_rd rfl rfl (x_load Try.underlying51 rfl rfl (cell_ofL ((H.old 0 rfl) _ _ hB) rfl)) ?_
    refine l_rd rfl rfl (x_move (by conv => lhs; whnf)) ?_
    refine l_rd rfl rfl (x_look TS Try.underlying51 ty3 rfl rfl ((H.old 0 rfl) _ _ hM) hv ((alook_ents x ts).trans (if_neg hx))) ?_
    refine l_rd rfl rfl (x_move (by conv => lhs; whnf)) ?_
    refine l_rd rfl rfl (x_extract rfl rfl) ?_
    refine l_rd rfl rfl (x_extract rfl rfl) ?_
    refine l_rd rfl rfl (x_assign (by conv => lhs; whnf)) ?_
    refine l_rd rfl rfl (x_assign (by conv => lhs; whnf)) ?_
    refine WL.nil ?_
    refine WC.seq ?_
    refine WC.region ?_
    refine l_rd rfl rfl (x_move (by conv => lhs; whnf)) ?_
    refine l_rd rfl rfl (x_move (by conv => lhs; whnf)) ?_
    refine l_rd rfl rfl (x_assign (by conv => lhs; whnf)) ?_
    refine l_rd rfl rfl (x_assign (by conv => lhs; whnf)) ?_
    refine WL.nil ?_
    refine WC.ret ?_
    refine atRet ?_
    exact RetM.two rfl (by (conv => lhs; whnf); try rfl) (by (conv => lhs; whnf); try rfl) (⟨by rw [fIdx, if_neg hx, decide_eq_false hx], H.below 0 rfl⟩)

theorem c14 {B : Nat} {ts : List ByteArray} {n : Int} (w : World) (hR : BookR w B ts) : CC Try.prog 14 [.pointer (some ⟨B, 0, none⟩), I n].toArray w (fun r w' => r = .tuple #[S (tAt ts n), .bool (decide (tIs ts n))] ∧ Ext w w') := by
  obtain ⟨w0, e0⟩ : ∃ w0, w0 = w := ⟨w, rfl⟩
  subst e0
  have H := Hd.start w0
  obtain ⟨hn, M, es, cl, v, f, hB, hM, hv, hr⟩ := hR
  obtain ⟨a, c, rfl⟩ := hr.shape
  have hle := hr.le
  refine CC.of (N := 29) Try.func14 rfl rfl rfl ?_
  refine WC.seq ?_
  refine WC.region ?_
  refine l_rd rfl rfl (x_assign ev_c) ?_
  refine l_rd rfl rfl (x_assign ev_c) ?_
  refine WL.nil ?_
  refine WC.seq ?_
  refine WC.seq ?_
  refine WC.region ?_
  refine l_rd rfl rfl (x_move (by conv => lhs; whnf)) ?_
  refine l_st rfl (s_callL cal26 (c26 _ ((H.old 0 rfl) _ _ hB)) ?_)
  rintro _ w ⟨rfl, e1⟩
  have H := H.ext e1
  refine l_rd rfl rfl (x_not rfl) ?_
  refine l_rd rfl rfl (x_move (by conv => lhs; whnf)) ?_
  refine l_gy (wantY rfl rfl rfl) rfl rfl (x_move (by conv => lhs; whnf)) ?_
  refine l_gyD (wantY rfl rfl rfl) rfl rfl (x_lss rfl rfl) (fun h11 => ?_) (fun h11 => ?_)
  ·
    refine l_rd rfl rfl (x_pick0 rfl (by conv => lhs; whnf)) ?_
    refine l_rd rfl rfl (x_move (by conv => lhs; whnf)) ?_
    refine l_gn (wantN rfl rfl rfl) rfl ?_
    refine l_gn (wantN rfl rfl rfl) rfl ?_
    refine l_gn (wantN rfl rfl rfl) rfl ?_
    refine l_gn (wantN rfl rfl rfl) rfl ?_
    refine l_gn (wantN rfl rfl rfl) rfl ?_
    refine l_gn (wantN rfl rfl rfl) rfl ?_
    refine l_gn (wantN rfl rfl rfl) rfl ?_
    refine l_rd rfl rfl (x_pick1 rfl ev_c) ?_
    refine WL.nil ?_
    refine WC.cond1 rfl ?_
    refine WC.seq ?_
    refine WC.region ?_
    refine l_rd rfl rfl (x_assign ev_c) ?_
    refine l_rd rfl rfl (x_assign ev_c) ?_
    refine WL.nil ?_
    refine WC.ret ?_
    refine atRet ?_
    exact RetM.two rfl (by (conv => lhs; whnf); try rfl) (by (conv => lhs; whnf); try rfl) (⟨by rw [tAt, if_neg (fun h => by unfold tIs at h; omega), decide_eq_false (fun h => by unfold tIs at h; omega)], H.below 0 rfl⟩)
  ·
    refine l_rd rfl rfl (x_pick0 rfl (by conv => lhs; whnf)) ?_
    refine l_rd rfl rfl (x_move (by conv => lhs; whnf)) ?_
    refine l_gy (wantY rfl rfl rfl) rfl rfl (x_move (by conv => lhs; whnf)) ?_
    refine l_gy (wantY rfl rfl rfl) rfl rfl (x_move (by conv => lhs; whnf)) ?_
    refine l_gy (wantY rfl rfl rfl) rfl rfl (x_nilCheck rfl) ?_
    refine l_gy (wantY rfl rfl rfl) rfl rfl (x_fieldAddr Try.underlying53 rfl rfl ty29 (by decide) rfl) ?_
    refine l_gy (wantY rfl rfl rfl) rfl rfl (x_load Try.underlying29 rfl rfl (cell_ofL ((H.old 0 rfl) _ _ hB) rfl)) ?_
    refine l_gy (wantY rfl rfl rfl) rfl rfl (x_lenSlice Try.underlying29 rfl rfl) ?_
    refine l_gyD (wantY rfl rfl rfl) rfl rfl (x_geq rfl rfl) (fun h20 => ?_) (fun h20 => ?_)
    ·
      refine l_rd rfl rfl (x_pick0 rfl (by conv => lhs; whnf)) ?_
      refine WL.nil ?_
      refine WC.cond1 rfl ?_
      refine WC.seq ?_
      refine WC.region ?_
      refine l_rd rfl rfl (x_assign ev_c) ?_
      refine l_rd rfl rfl (x_assign ev_c) ?_
      refine WL.nil ?_
      refine WC.ret ?_
      refine atRet ?_
      exact RetM.two rfl (by (conv => lhs; whnf); try rfl) (by (conv => lhs; whnf); try rfl) (⟨by rw [tAt, if_neg (fun h => by unfold tIs at h; omega), decide_eq_false (fun h => by unfold tIs at h; omega)], H.below 0 rfl⟩)
    ·
      refine l_rd rfl rfl (x_pick0 rfl (by conv => lhs; whnf)) ?_
      refine WL.nil ?_
      refine WC.cond0 rfl ?_
      refine WC.skip ?_
      refine WC.seq ?_
      obtain ⟨x, hx⟩ := lt_get (show n.toNat < ts.length by omega)
      obtain ⟨b1, o1, rfl, hc1⟩ := ((H.old 0 rfl).rdL hr).el hx
      refine WC.region ?_
      refine l_rd rfl rfl (x_move (by conv => lhs; whnf)) ?_
      refine l_rd rfl rfl (x_nilCheck rfl) ?_
      refine l_rd rfl rfl (x_fieldAddr Try.underlying53 rfl rfl ty29 (by decide) rfl) ?_
      refine l_rd rfl rfl (x_load Try.underlying29 rfl rfl (cell_ofL ((H.old 0 rfl) _ _ hB) rfl)) ?_
      refine l_rd rfl rfl (x_move (by conv => lhs; whnf)) ?_
      refine l_rd rfl rfl (x_indexAddr Try.underlying29 ty9 rfl rfl (by omega) (by omega)) ?_
      refine l_rd rfl rfl (x_load Try.underlying9 rfl rfl hc1) ?_
      refine l_rd rfl rfl (x_assign (by conv => lhs; whnf)) ?_
      refine l_rd rfl rfl (x_assign ev_c) ?_
      refine WL.nil ?_
      refine WC.ret ?_
      refine atRet ?_
      exact RetM.two rfl (by (conv => lhs; whnf); try rfl) (by (conv => lhs; whnf); try rfl) (⟨by rw [tAt_get (by unfold tIs; omega) hx, decide_eq_true (by unfold tIs; omega)], H.below 0 rfl⟩)

theorem c15 {B : Nat} {ts : List ByteArray} {n : Int} (w : World) (hR : RefR w B ts) : CC Try.prog 15 [.pointer (some ⟨B, 0, none⟩), I n].toArray w (fun r w' => r = .tuple #[S (tAt ts n), .bool (decide (tIs ts n))] ∧ Ext w w') := by
  obtain ⟨w0, e0⟩ : ∃ w0, w0 = w := ⟨w, rfl⟩
  subst e0
  have H := Hd.start w0
  obtain ⟨v, f, hB, hr⟩ := hR
  obtain ⟨a, c, rfl⟩ := hr.shape
  have hle := hr.le
  refine CC.of (N := 24) Try.func15 rfl rfl rfl ?_
  refine WC.seq ?_
  refine WC.region ?_
  refine l_rd rfl rfl (x_assign ev_c) ?_
  refine l_rd rfl rfl (x_assign ev_c) ?_
  refine WL.nil ?_
  refine WC.seq ?_
  refine WC.seq ?_
  refine WC.region ?_
  refine l_rd rfl rfl (x_move (by conv => lhs; whnf)) ?_
  refine l_rdD rfl rfl (x_lss rfl rfl) (fun h7 => ?_) (fun h7 => ?_)
  ·
    refine l_rd rfl rfl (x_move (by conv => lhs; whnf)) ?_
    refine l_gn (wantN rfl rfl rfl) rfl ?_
    refine l_gn (wantN rfl rfl rfl) rfl ?_
    refine l_gn (wantN rfl rfl rfl) rfl ?_
    refine l_gn (wantN rfl rfl rfl) rfl ?_
    refine l_gn (wantN rfl rfl rfl) rfl ?_
    refine l_gn (wantN rfl rfl rfl) rfl ?_
    refine l_gn (wantN rfl rfl rfl) rfl ?_
    refine l_rd rfl rfl (x_pick1 rfl ev_c) ?_
    refine WL.nil ?_
    refine WC.cond1 rfl ?_
    refine WC.seq ?_
    refine WC.region ?_
    refine l_rd rfl rfl (x_assign ev_c) ?_
    refine l_rd rfl rfl (x_assign ev_c) ?_
    refine WL.nil ?_
    refine WC.ret ?_
    refine atRet ?_
    exact RetM.two rfl (by (conv => lhs; whnf); try rfl) (by (conv => lhs; whnf); try rfl) (⟨by rw [tAt, if_neg (fun h => by unfold tIs at h; omega), decide_eq_false (fun h => by unfold tIs at h; omega)], H.below 0 rfl⟩)
  ·
    refine l_rd rfl rfl (x_move (by conv => lhs; whnf)) ?_
    refine l_gy (wantY rfl rfl rfl) rfl rfl (x_move (by conv => lhs; whnf)) ?_
    refine l_gy (wantY rfl rfl rfl) rfl rfl (x_move (by conv => lhs; whnf)) ?_
    refine l_gy (wantY rfl rfl rfl) rfl rfl (x_nilCheck rfl) ?_
    refine l_gy (wantY rfl rfl rfl) rfl rfl (x_fieldAddr Try.underlying43 rfl rfl ty29 (by decide) rfl) ?_
    refine l_gy (wantY rfl rfl rfl) rfl rfl (x_load Try.underlying29 rfl rfl (cell_ofL ((H.old 0 rfl) _ _ hB) rfl)) ?_
    refine l_gy (wantY rfl rfl rfl) rfl rfl (x_lenSlice Try.underlying29 rfl rfl) ?_
    refine l_gyD (wantY rfl rfl rfl) rfl rfl (x_geq rfl rfl) (fun h15 => ?_) (fun h15 => ?_)
    ·
      refine l_rd rfl rfl (x_pick0 rfl (by conv => lhs; whnf)) ?_
      refine WL.nil ?_
      refine WC.cond1 rfl ?_
      refine WC.seq ?_
      refine WC.region ?_
      refine l_rd rfl rfl (x_assign ev_c) ?_
      refine l_rd rfl rfl (x_assign ev_c) ?_
      refine WL.nil ?_
      refine WC.ret ?_
      refine atRet ?_
      exact RetM.two rfl (by (conv => lhs; whnf); try rfl) (by (conv => lhs; whnf); try rfl) (⟨by rw [tAt, if_neg (fun h => by unfold tIs at h; omega), decide_eq_false (fun h => by unfold tIs at h; omega)], H.below 0 rfl⟩)
    ·
      refine l_rd rfl rfl (x_pick0 rfl (by conv => lhs; whnf)) ?_
      refine WL.nil ?_
      refine WC.cond0 rfl ?_
      refine WC.skip ?_
      refine WC.seq ?_
      obtain ⟨x, hx⟩ := lt_get (show n.toNat < ts.length by omega)
      obtain ⟨b1, o1, rfl, hc1⟩ := ((H.old 0 rfl).rdL hr).el hx
      refine WC.region ?_
      refine l_rd rfl rfl (x_move (by conv => lhs; whnf)) ?_
      refine l_rd rfl rfl (x_nilCheck rfl) ?_
      refine l_rd rfl rfl (x_fieldAddr Try.underlying43 rfl rfl ty29 (by decide) rfl) ?_
      refine l_rd rfl rfl (x_load Try.underlying29 rfl rfl (cell_ofL ((H.old 0 rfl) _ _ hB) rfl)) ?_
      refine l_rd rfl rfl (x_move (by conv => lhs; whnf)) ?_
      refine l_rd rfl rfl (x_indexAddr Try.underlying29 ty9 rfl rfl (by omega) (by omega)) ?_
      refine l_rd rfl rfl (x_load Try.underlying9 rfl rfl hc1) ?_
      refine l_rd rfl rfl (x_assign (by conv => lhs; whnf)) ?_
      refine l_rd rfl rfl (x_assign ev_c) ?_
      refine WL.nil ?_
      refine WC.ret ?_
      refine atRet ?_
      exact RetM.two rfl (by (conv => lhs; whnf); try rfl) (by (conv => lhs; whnf); try rfl) (⟨by rw [tAt_get (by unfold tIs; omega) hx, decide_eq_true (by unfold tIs; omega)], H.below 0 rfl⟩)

theorem c13 {B : Nat} {ts : List ByteArray} {x : ByteArray} (w : World) (hR : RefR w B ts) : CC Try.prog 13 [.pointer (some ⟨B, 0, none⟩), S x].toArray w (fun r w' => r = .tuple #[I (fIdx ts x), .bool (decide (x ∈ ts))] ∧ Ext w w') := by
  obtain ⟨w0, e0⟩ : ∃ w0, w0 = w := ⟨w, rfl⟩
  subst e0
  have H := Hd.start w0
  obtain ⟨v, f, hB, hr⟩ := hR
  obtain ⟨a, c, rfl⟩ := hr.shape
  have hle := hr.le
  refine CC.of (N := 26) Try.func13 rfl rfl rfl ?_
  refine WC.seq ?_
  refine WC.region ?_
  refine l_rd rfl rfl (x_assign ev_c) ?_
  refine l_rd rfl rfl (x_assign ev_c) ?_
  refine WL.nil ?_
  refine WC.seq ?_
  refine WC.seq ?_
  refine WC.region ?_
  refine l_rd rfl rfl (x_assign ev_c) ?_
  refine WL.nil ?_
  refine WC.block ?_
  refine WC.loop (fun ρ ds w => ∃ k : Nat, k ≤ ts.length ∧ (∀ j, j < k → ts[j]? ≠ some x) ∧ ρ 6 = .int .i64 k ∧ ρ 0 = .pointer (some ⟨B, 0, none⟩) ∧ ρ 1 = S x ∧ ds = [] ∧ Hd (sy w0) w [fr w0]) (fun ρ w => ts.length - (match ρ 6 with | .int _ k => k.toNat | _ => 0)) (⟨0, Nat.zero_le _, fun j h => absurd h (by omega), rfl, rfl, rfl, rfl, H⟩) ?_
  repeat clear H
  rintro ρ ds w ⟨k, hk, he, h6, h0, h1, rfl, H⟩
  refine WC.seq ?_
  refine WC.seq ?_
  refine WC.region ?_
  refine l_rd rfl rfl (x_move h6) ?_
  refine l_rd rfl rfl (x_move h0) ?_
  refine l_rd rfl rfl (x_nilCheck rfl) ?_
  refine l_rd rfl rfl (x_fieldAddr Try.underlying43 rfl rfl ty29 (by decide) rfl) ?_
  refine l_rd rfl rfl (x_load Try.underlying29 rfl rfl (cell_ofL ((H.old 0 rfl) _ _ hB) rfl)) ?_
  refine l_rd rfl rfl (x_lenSlice Try.underlying29 rfl rfl) ?_
  refine l_rdD rfl rfl (x_lss rfl rfl) (fun h13 => ?_) (fun h13 => ?_)
  ·
    refine WL.nil ?_
    refine WC.cond1 rfl ?_
    refine WC.skip ?_
    refine WC.seq ?_
    refine WC.block ?_
    refine WC.seq ?_
    obtain ⟨y, hyk⟩ := lt_get (show k < ts.length by omega)
    obtain ⟨b1, o1, rfl, hc1⟩ := ((H.old 0 rfl).rdL hr).el hyk
    refine WC.region ?_
    refine l_rd rfl rfl (x_move h0) ?_
    refine l_rd rfl rfl (x_nilCheck rfl) ?_
    refine l_rd rfl rfl (x_fieldAddr Try.underlying43 rfl rfl ty29 (by decide) rfl) ?_
    refine l_rd rfl rfl (x_load Try.underlying29 rfl rfl (cell_ofL ((H.old 0 rfl) _ _ hB) rfl)) ?_
    refine l_rd rfl rfl (x_move h6) ?_
    refine l_rd rfl rfl (x_indexAddr Try.underlying29 ty9 rfl rfl (by omega) (by omega)) ?_
    refine l_rd rfl rfl (x_load Try.underlying9 rfl rfl hc1) ?_
    refine l_rd rfl rfl (x_move h1) ?_
    refine l_rdD rfl rfl (x_eqlS rfl rfl) (fun h24 => ?_) (fun h24 => ?_)
    ·
      refine WL.nil ?_
      refine WC.cond1 rfl ?_
      refine WC.seq ?_
      refine WC.region ?_
      refine l_rd rfl rfl (x_move h6) ?_
      refine l_rd rfl rfl (x_assign (by conv => lhs; whnf)) ?_
      refine l_rd rfl rfl (x_assign ev_c) ?_
      refine WL.nil ?_
      refine WC.ret ?_
      refine atRet ?_
      exact RetM.two rfl (by (conv => lhs; whnf); try rfl) (by (conv => lhs; whnf); try rfl) (⟨by rw [fIdx, if_pos (mem_at (h24 ▸ hyk)), decide_eq_true (mem_at (h24 ▸ hyk)), idx_at (h24 ▸ hyk) he], H.below 0 rfl⟩)
    ·
      refine WL.nil ?_
      refine WC.cond0 rfl ?_
      refine WC.skip ?_
      refine WC.region ?_
      refine l_rd rfl rfl (x_move h6) ?_
      refine l_rd rfl rfl (x_add rfl rfl (by omega) (by omega)) ?_
      refine l_rd rfl rfl (x_assign (by conv => lhs; whnf)) ?_
      refine WL.nil ?_
      refine WC.again (⟨k + 1, by omega, fun j hj => by
            by_cases e : j = k
            · subst e; rw [hyk]; exact fun e => h24 (by simpa using e)
            · exact he j (by omega), rfl, h0, h1, rfl, H⟩) (by show _ - _ < _ - _; rw [h6]; show ts.length - ((k : Int) + 1).toNat < ts.length - (k : Int).toNat; omega)
  ·
    refine WL.nil ?_
    refine WC.cond0 rfl ?_
    refine WC.exit ?_
    refine WC.seq ?_
    refine WC.region ?_
    refine l_rd rfl rfl (x_assign ev_c) ?_
    refine l_rd rfl rfl (x_assign ev_c) ?_
    refine WL.nil ?_
    refine WC.ret ?_
    refine atRet ?_
    exact RetM.two rfl (by (conv => lhs; whnf); try rfl) (by (conv => lhs; whnf); try rfl) (⟨by rw [fIdx, if_neg (no_at (by omega) he), decide_eq_false (no_at (by omega) he)], H.below 0 rfl⟩)

theorem c34 {v : Value} {ts : List ByteArray} {x : ByteArray} (w : World) (hr : RdL w v S ts) : CC Try.prog 34 [v, S x].toArray w (fun r w' => r = I (if x ∈ ts then (ts.idxOf x : Int) else -1) ∧ Ext w w') := by
  obtain ⟨w0, e0⟩ : ∃ w0, w0 = w := ⟨w, rfl⟩
  subst e0
  have H := Hd.start w0
  obtain ⟨a, c, rfl⟩ := hr.shape
  have hle := hr.le
  refine CC.of (N := 19) Try.func34 rfl rfl rfl ?_
  refine WC.seq ?_
  refine WC.region ?_
  refine l_rd rfl rfl (x_assign ev_c) ?_
  refine WL.nil ?_
  refine WC.seq ?_
  refine WC.seq ?_
  refine WC.region ?_
  refine l_rd rfl rfl (x_move (by conv => lhs; whnf)) ?_
  refine l_rd rfl rfl (x_lenSlice Try.underlying29 rfl rfl) ?_
  refine l_rd rfl rfl (x_move ev_c) ?_
  refine WL.nil ?_
  refine WC.block ?_
  refine WC.loop (fun ρ ds w => ∃ k : Nat, k ≤ ts.length ∧ (∀ j, j < k → ts[j]? ≠ some x) ∧ ρ 8 = .int .i64 k ∧ ρ 7 = .int .i64 ts.length ∧ ρ 0 = .slice a ts.length c ∧ ρ 1 = S x ∧ ds = [] ∧ Hd (sy w0) w [fr w0]) (fun ρ w => ts.length - (match ρ 8 with | .int _ k => k.toNat | _ => 0)) (⟨0, Nat.zero_le _, fun j h => absurd h (by omega), rfl, rfl, rfl, rfl, rfl, H⟩) ?_
  repeat clear H
  rintro ρ ds w ⟨k, hk, he, h8, h7, h0, h1, rfl, H⟩
  refine WC.seq ?_
  refine WC.region ?_
  refine l_rdD rfl rfl (x_lss h8 h7) (fun h9 => ?_) (fun h9 => ?_)
  ·
    refine WL.nil ?_
    refine WC.seq ?_
    refine WC.cond1 rfl ?_
    refine WC.skip ?_
    refine WC.seq ?_
    refine WC.block ?_
    refine WC.seq ?_
    refine WC.region ?_
    refine l_rd rfl rfl (x_move h8) ?_
    refine l_rd rfl rfl (x_assign (by conv => lhs; whnf)) ?_
    refine WL.nil ?_
    refine WC.seq ?_
    obtain ⟨y, hyk⟩ := lt_get (show k < ts.length by omega)
    obtain ⟨b1, o1, rfl, hc1⟩ := ((H.old 0 rfl).rdL hr).el hyk
    refine WC.region ?_
    refine l_rd rfl rfl (x_move h1) ?_
    refine l_rd rfl rfl (x_move h0) ?_
    refine l_rd rfl rfl (x_move (by conv => lhs; whnf)) ?_
    refine l_rd rfl rfl (x_indexAddr Try.underlying29 ty9 rfl rfl (by omega) (by omega)) ?_
    refine l_rd rfl rfl (x_load Try.underlying9 rfl rfl hc1) ?_
    refine l_rdD rfl rfl (x_eqlS rfl rfl) (fun h16 => ?_) (fun h16 => ?_)
    ·
      refine WL.nil ?_
      refine WC.cond1 rfl ?_
      refine WC.seq ?_
      refine WC.region ?_
      refine l_rd rfl rfl (x_move (by conv => lhs; whnf)) ?_
      refine l_rd rfl rfl (x_assign (by conv => lhs; whnf)) ?_
      refine WL.nil ?_
      refine WC.ret ?_
      refine atRet ?_
      exact RetM.one rfl (by (conv => lhs; whnf); try rfl) (⟨by rw [if_pos (mem_at (h16 ▸ hyk)), idx_at (h16 ▸ hyk) he], H.below 0 rfl⟩)
    ·
      refine WL.nil ?_
      refine WC.cond0 rfl ?_
      refine WC.skip ?_
      refine WC.region ?_
      refine l_rd rfl rfl (x_add h8 rfl (by omega) (by omega)) ?_
      refine l_rd rfl rfl (x_move (by conv => lhs; whnf)) ?_
      refine WL.nil ?_
      refine WC.again (⟨k + 1, by omega, fun j hj => by
            by_cases e : j = k
            · subst e; rw [hyk]; exact fun e => h16 (by simpa using e.symm)
            · exact he j (by omega), rfl, h7, h0, h1, rfl, H⟩) (by show _ - _ < _ - _; rw [h8]; show ts.length - ((k : Int) + 1).toNat < ts.length - (k : Int).toNat; omega)
  ·
    refine WL.nil ?_
    refine WC.seq ?_
    refine WC.cond0 rfl ?_
    refine WC.exit ?_
    refine WC.seq ?_
    refine WC.region ?_
    refine l_rd rfl rfl (x_assign ev_c) ?_
    refine WL.nil ?_
    refine WC.ret ?_
    refine atRet ?_
    exact RetM.one rfl (by (conv => lhs; whnf); try rfl) (⟨by rw [if_neg (no_at (by omega) he)], H.below 0 rfl⟩)

theorem c31 {v : Value} {ts : List ByteArray} {x : ByteArray} (w : World) (hr : RdL w v S ts) : CC Try.prog 31 [v, S x].toArray w (fun r w' => r = .bool (decide (x ∈ ts)) ∧ Ext w w') := by
  obtain ⟨w0, e0⟩ : ∃ w0, w0 = w := ⟨w, rfl⟩
  subst e0
  have H := Hd.start w0
  refine CC.of (N := 9) Try.func31 rfl rfl rfl ?_
  refine WC.seq ?_
  refine WC.region ?_
  refine l_rd rfl rfl (x_assign ev_c) ?_
  refine WL.nil ?_
  refine WC.seq ?_
  refine WC.region ?_
  refine l_rd rfl rfl (x_move (by conv => lhs; whnf)) ?_
  refine l_rd rfl rfl (x_move (by conv => lhs; whnf)) ?_
  refine l_st rfl (s_callL cal34 (c34 _ ((H.old 0 rfl).rdL hr)) ?_)
  rintro _ w ⟨rfl, e1⟩
  have H := H.ext e1
  refine l_rdD rfl rfl (x_geq rfl rfl) (fun h8 => ?_) (fun h8 => ?_)
  ·
    refine l_rd rfl rfl (x_assign (by conv => lhs; whnf)) ?_
    refine WL.nil ?_
    refine WC.ret ?_
    refine atRet ?_
    exact RetM.one rfl (by (conv => lhs; whnf); try rfl) (⟨by rw [decide_eq_true]; split at h8 <;> first | assumption | omega, H.below 0 rfl⟩)
  ·
    refine l_rd rfl rfl (x_assign (by conv => lhs; whnf)) ?_
    refine WL.nil ?_
    refine WC.ret ?_
    refine atRet ?_
    exact RetM.one rfl (by (conv => lhs; whnf); try rfl) (⟨by rw [decide_eq_false]; split at h8 <;> first | assumption | omega, H.below 0 rfl⟩)

theorem c30 {x : Int} (w : World) : CC Try.prog 30 [.int .i32 x].toArray w (fun r w' => r = .bool (decide (97 ≤ x ∧ x ≤ 122)) ∧ Ext w w') := by
  obtain ⟨w0, e0⟩ : ∃ w0, w0 = w := ⟨w, rfl⟩
  subst e0
  have H := Hd.start w0
  refine CC.of (N := 9) Try.func30 rfl rfl rfl ?_
  refine WC.seq ?_
  refine WC.region ?_
  refine l_rd rfl rfl (x_assign ev_c) ?_
  refine WL.nil ?_
  refine WC.seq ?_
  refine WC.region ?_
  refine l_rd rfl rfl (x_move (by conv => lhs; whnf)) ?_
  refine l_rdD rfl rfl (x_geq rfl rfl) (fun h4 => ?_) (fun h4 => ?_)
  ·
    refine l_rd rfl rfl (x_move (by conv => lhs; whnf)) ?_
    refine l_gy (wantY rfl rfl rfl) rfl rfl (x_move (by conv => lhs; whnf)) ?_
    refine l_gyD (wantY rfl rfl rfl) rfl rfl (x_leq rfl rfl) (fun h7 => ?_) (fun h7 => ?_)
    ·
      refine l_rd rfl rfl (x_pick1 rfl (by conv => lhs; whnf)) ?_
      refine l_rd rfl rfl (x_assign (by conv => lhs; whnf)) ?_
      refine WL.nil ?_
      refine WC.ret ?_
      refine atRet ?_
      exact RetM.one rfl (by (conv => lhs; whnf); try rfl) (⟨by rw [decide_eq_true (by omega)], H.below 0 rfl⟩)
    ·
      refine l_rd rfl rfl (x_pick1 rfl (by conv => lhs; whnf)) ?_
      refine l_rd rfl rfl (x_assign (by conv => lhs; whnf)) ?_
      refine WL.nil ?_
      refine WC.ret ?_
      refine atRet ?_
      exact RetM.one rfl (by (conv => lhs; whnf); try rfl) (⟨by rw [decide_eq_false (by omega)], H.below 0 rfl⟩)
  ·
    refine l_rd rfl rfl (x_move (by conv => lhs; whnf)) ?_
    refine l_gn (wantN rfl rfl rfl) rfl ?_
    refine l_gn (wantN rfl rfl rfl) rfl ?_
    refine l_rd rfl rfl (x_pick0 rfl ev_c) ?_
    refine l_rd rfl rfl (x_assign (by conv => lhs; whnf)) ?_
    refine WL.nil ?_
    refine WC.ret ?_
    refine atRet ?_
    exact RetM.one rfl (by (conv => lhs; whnf); try rfl) (⟨by rw [decide_eq_false (by omega)], H.below 0 rfl⟩)

end Go.Proofs.Ytpoahelomhjnaaa
