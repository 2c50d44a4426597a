/-
  What functions of this seat do: contracts, proved by walks; each with the conditions that it names.
-/
import Derived.Test.YtpoahelomhjnaaaN9
set_option linter.unusedVariables false
set_option linter.unusedSimpArgs false
namespace Go.Proofs.Ytpoahelomhjnaaa
open Go Go.RowKit KE Go.Proofs
theorem cal7 : Cal Try.prog 7 := ⟨_, Try.func7, rfl, by decide⟩
theorem cal10 : Cal Try.prog 10 := ⟨_, Try.func10, rfl, by decide⟩
theorem cal14 : Cal Try.prog 14 := ⟨_, Try.func14, rfl, by decide⟩
theorem cal16 : Cal Try.prog 16 := ⟨_, Try.func16, rfl, by decide⟩
theorem cal23 : Cal Try.prog 23 := ⟨_, Try.func23, rfl, by decide⟩

theorem vt_as1 : ∀ (i : Nat) (h : i < (⟨#[97, 115, 49]⟩ : ByteArray).size), vtxB (⟨#[97, 115, 49]⟩ : ByteArray)[i] := by
  intro i h
  have h' : i < 3 := h
  rcases (by omega : i = 0 ∨ i = 1 ∨ i = 2) with rfl | rfl | rfl
  · exact (show vtxB 97 from by unfold vtxB; decide)
  · exact (show vtxB 115 from by unfold vtxB; decide)
  · exact (show vtxB 49 from by unfold vtxB; decide)
theorem vt_as : ∀ (i : Nat) (h : i < (⟨#[97, 115]⟩ : ByteArray).size), vtxB (⟨#[97, 115]⟩ : ByteArray)[i] := by
  intro i h
  have h' : i < 2 := h
  rcases (by omega : i = 0 ∨ i = 1) with rfl | rfl
  · exact (show vtxB 97 from by unfold vtxB; decide)
  · exact (show vtxB 115 from by unfold vtxB; decide)
theorem vt_1a : ∀ (i : Nat) (h : i < (⟨#[49, 97]⟩ : ByteArray).size), vtxB (⟨#[49, 97]⟩ : ByteArray)[i] := by
  intro i h
  have h' : i < 2 := h
  rcases (by omega : i = 0 ∨ i = 1) with rfl | rfl
  · exact (show vtxB 49 from by unfold vtxB; decide)
  · exact (show vtxB 97 from by unfold vtxB; decide)
theorem fr_as1 : Value.bool (decide (¬ (⟨#[97, 115, 49]⟩ : ByteArray) ∈ wordsL)) = .bool true := by kernel_rfl
theorem fr_as : Value.bool (decide (¬ (⟨#[97, 115]⟩ : ByteArray) ∈ wordsL)) = .bool false := by kernel_rfl
theorem aw1 : (([⟨#[98]⟩, ⟨#[97]⟩, ⟨#[98]⟩] : List ByteArray).map fun t => I (fIdx (addL [] [⟨#[98]⟩, ⟨#[97]⟩, ⟨#[98]⟩]) t)) = [0, 1, 0].map (Value.int .i64) := by kernel_rfl
theorem aw2 : (([⟨#[97]⟩, ⟨#[99]⟩] : List ByteArray).map fun t => I (fIdx (addL (addL [] [⟨#[98]⟩, ⟨#[97]⟩, ⟨#[98]⟩]) [⟨#[97]⟩, ⟨#[99]⟩]) t)) = [1, 2].map (Value.int .i64) := by kernel_rfl
theorem aw3 : Value.tuple #[S (tAt (addL (addL [] [⟨#[98]⟩, ⟨#[97]⟩, ⟨#[98]⟩]) [⟨#[97]⟩, ⟨#[99]⟩]) 1), .bool (decide (tIs (addL (addL [] [⟨#[98]⟩, ⟨#[97]⟩, ⟨#[98]⟩]) [⟨#[97]⟩, ⟨#[99]⟩]) 1))] = .tuple #[S ⟨#[97]⟩, .bool true] := by kernel_rfl
theorem c6 (w : World) : CC Try.prog 6 [].toArray w (fun r w' => r = .bool true ∧ Ext w w') := by
  obtain ⟨w0, e0⟩ : ∃ w0, w0 = w := ⟨w, rfl⟩
  subst e0
  have H := Hd.start w0
  refine CC.of (N := 59) Try.func6 rfl rfl rfl ?_
  refine WC.seq ?_
  refine WC.region ?_
  refine l_rd rfl rfl (x_assign ev_c) ?_
  refine WL.nil ?_
  refine WC.seq ?_
  refine WC.region ?_
  refine l_st rfl (s_callL cal7 (c7 _ H) ?_)
  rintro _ w ⟨B, rfl, H⟩
  refine l_rd rfl rfl (x_assign (by conv => lhs; whnf)) ?_
  refine WL.nil ?_
  refine WC.seq ?_
  refine WC.region ?_
  refine l_rd rfl rfl (x_move (by conv => lhs; whnf)) ?_
  refine l_st rfl (s_buildN (xs := [.const (.string ⟨#[98]⟩), .const (.string ⟨#[97]⟩), .const (.string ⟨#[98]⟩)]) (vs := [.string ⟨#[98]⟩, .string ⟨#[97]⟩, .string ⟨#[98]⟩]) Try.underlying29 ty9 rfl rfl rfl rfl (by decide) (by decide) (by simp [Value.oneCell']) H fun b11 w H => ?_)
  refine l_st rfl (s_callL cal10 (c10 (texts := [⟨#[98]⟩, ⟨#[97]⟩, ⟨#[98]⟩]) _ H.swp (fun w A h => h.sl 0 rfl) (by decide)) ?_)
  rintro _ w ⟨ov1, rfl, H⟩
  refine l_rd rfl rfl (x_move (by conv => lhs; whnf)) ?_
  refine l_rd rfl rfl (x_extract rfl rfl) ?_
  refine l_rd rfl rfl (x_extract rfl rfl) ?_
  refine l_rd rfl rfl (x_assign (by conv => lhs; whnf)) ?_
  refine l_rd rfl rfl (x_assign (by conv => lhs; whnf)) ?_
  refine WL.nil ?_
  refine WC.seq ?_
  refine WC.region ?_
  refine l_rd rfl rfl (x_move (by conv => lhs; whnf)) ?_
  refine l_st rfl (s_buildN (xs := [.const (.string ⟨#[97]⟩), .const (.string ⟨#[99]⟩)]) (vs := [.string ⟨#[97]⟩, .string ⟨#[99]⟩]) Try.underlying29 ty9 rfl rfl rfl rfl (by decide) (by decide) (by simp [Value.oneCell']) H fun b17 w H => ?_)
  refine l_st rfl (s_callL cal10 (c10 (texts := [⟨#[97]⟩, ⟨#[99]⟩]) _ (Hd.arrT [_, _, _] [2, 0, 1] (by decide) rfl H) (fun w A h => h.sl 0 rfl) (by decide)) ?_)
  rintro _ w ⟨ov2, rfl, H⟩
  refine l_rd rfl rfl (x_move (by conv => lhs; whnf)) ?_
  refine l_rd rfl rfl (x_extract rfl rfl) ?_
  refine l_rd rfl rfl (x_extract rfl rfl) ?_
  refine l_rd rfl rfl (x_assign (by conv => lhs; whnf)) ?_
  refine l_rd rfl rfl (x_assign (by conv => lhs; whnf)) ?_
  refine WL.nil ?_
  refine WC.seq ?_
  refine WC.region ?_
  refine l_rd rfl rfl (x_move (by conv => lhs; whnf)) ?_
  refine l_st rfl (s_callL cal14 (c14 (n := 1) _ (BookP.rd H 1 rfl)) ?_)
  rintro r w ⟨hr1, e1⟩
  have H := H.ext e1
  obtain rfl : r = .tuple #[S ⟨#[97]⟩, .bool true] := hr1.trans (aw3)
  refine l_rd rfl rfl (x_move (by conv => lhs; whnf)) ?_
  refine l_rd rfl rfl (x_extract rfl rfl) ?_
  refine l_rd rfl rfl (x_extract rfl rfl) ?_
  refine l_rd rfl rfl (x_assign (by conv => lhs; whnf)) ?_
  refine l_rd rfl rfl (x_assign (by conv => lhs; whnf)) ?_
  refine WL.nil ?_
  refine WC.seq ?_
  refine WC.region ?_
  refine l_rd rfl rfl (x_move (by conv => lhs; whnf)) ?_
  refine l_rdD rfl rfl (x_eql rfl rfl) (fun h27 => ?_) (fun h27 => ?_)
  ·
    refine l_rd rfl rfl (x_move (by conv => lhs; whnf)) ?_
    refine l_gy (wantY rfl rfl rfl) rfl rfl (x_move (by conv => lhs; whnf)) ?_
    refine l_gyD (wantY rfl rfl rfl) rfl rfl (x_eql rfl rfl) (fun h30 => ?_) (fun h30 => ?_)
    ·
      refine l_rd rfl rfl (x_pick1 rfl (by conv => lhs; whnf)) ?_
      refine l_rd rfl rfl (x_move (by conv => lhs; whnf)) ?_
      refine l_gy (wantY rfl rfl rfl) rfl rfl (x_move (by conv => lhs; whnf)) ?_
      refine l_gst (wantY rfl rfl rfl) rfl (s_buildN (xs := [.const (.int .i64 0), .const (.int .i64 1), .const (.int .i64 0)]) (vs := [.int .i64 0, .int .i64 1, .int .i64 0]) Try.underlying31 ty3 rfl rfl rfl rfl (by decide) (by decide) (by simp [Value.oneCell']) H fun b34 w H => ?_)
      refine l_gst (wantY rfl rfl rfl) rfl (s_callL cal16 (c16 (xs := [0, 1, 0]) (ys := [0, 1, 0]) _ (by have h := H.sl 4 rfl; rw [aw1] at h; exact h) (H.sl 0 rfl)) ?_)
      rintro r w ⟨hr1, e1⟩
      have H := H.ext e1
      obtain rfl : r = .bool true := hr1.trans (by rw [decide_eq_true rfl])
      refine l_rd rfl rfl (x_pick1 rfl (by conv => lhs; whnf)) ?_
      refine l_rd rfl rfl (x_move (by conv => lhs; whnf)) ?_
      refine l_gy (wantY rfl rfl rfl) rfl rfl (x_move (by conv => lhs; whnf)) ?_
      refine l_gst (wantY rfl rfl rfl) rfl (s_buildN (xs := [.const (.int .i64 1), .const (.int .i64 2)]) (vs := [.int .i64 1, .int .i64 2]) Try.underlying31 ty3 rfl rfl rfl rfl (by decide) (by decide) (by simp [Value.oneCell']) H fun b39 w H => ?_)
      refine l_gst (wantY rfl rfl rfl) rfl (s_callL cal16 (c16 (xs := [1, 2]) (ys := [1, 2]) _ (by have h := H.sl 2 rfl; rw [aw2] at h; exact h) (H.sl 0 rfl)) ?_)
      rintro r w ⟨hr1, e1⟩
      have H := H.ext e1
      obtain rfl : r = .bool true := hr1.trans (by rw [decide_eq_true rfl])
      refine l_rd rfl rfl (x_pick1 rfl (by conv => lhs; whnf)) ?_
      refine l_rd rfl rfl (x_move (by conv => lhs; whnf)) ?_
      refine l_gy (wantY rfl rfl rfl) rfl rfl (x_move (by conv => lhs; whnf)) ?_
      refine l_rd rfl rfl (x_pick1 rfl (by conv => lhs; whnf)) ?_
      refine l_rd rfl rfl (x_move (by conv => lhs; whnf)) ?_
      refine l_gy (wantY rfl rfl rfl) rfl rfl (x_move (by conv => lhs; whnf)) ?_
      refine l_gyD (wantY rfl rfl rfl) rfl rfl (x_eqlS rfl rfl) (fun h47 => ?_) (fun h47 => ?_)
      ·
        refine l_rd rfl rfl (x_pick1 rfl (by conv => lhs; whnf)) ?_
        refine l_rd rfl rfl (x_move (by conv => lhs; whnf)) ?_
        refine l_gst (wantY rfl rfl rfl) rfl (s_callL cal23 (c23 (x := ⟨#[97, 115, 49]⟩) w vt_as1 (by decide) (by decide) (by decide)) ?_)
        rintro r w ⟨hr1, e1⟩
        have H := H.ext e1
        obtain rfl : r = .bool true := hr1.trans (fr_as1)
        refine l_rd rfl rfl (x_pick1 rfl (by conv => lhs; whnf)) ?_
        refine l_rd rfl rfl (x_move (by conv => lhs; whnf)) ?_
        refine l_gst (wantY rfl rfl rfl) rfl (s_callL cal23 (c23 (x := ⟨#[97, 115]⟩) w vt_as (by decide) (by decide) (by decide)) ?_)
        rintro r w ⟨hr1, e1⟩
        have H := H.ext e1
        obtain rfl : r = .bool false := hr1.trans (fr_as)
        refine l_gy (wantY rfl rfl rfl) rfl rfl (x_not rfl) ?_
        refine l_rd rfl rfl (x_pick1 rfl (by conv => lhs; whnf)) ?_
        refine l_rd rfl rfl (x_move (by conv => lhs; whnf)) ?_
        refine l_gst (wantY rfl rfl rfl) rfl (s_callL cal24 (c24 (x := ⟨#[49, 97]⟩) w vt_1a (by decide) (by decide)) ?_)
        rintro r w ⟨hr1, e1⟩
        have H := H.ext e1
        obtain rfl : r = .bool true := hr1.trans (rfl)
        refine l_rd rfl rfl (x_pick1 rfl (by conv => lhs; whnf)) ?_
        refine l_rd rfl rfl (x_assign (by conv => lhs; whnf)) ?_
        refine WL.nil ?_
        refine WC.ret ?_
        refine atRet ?_
        exact RetM.one (v := .bool true) rfl rfl ⟨rfl, H.below 7 rfl⟩
      ·
        exact absurd rfl h47
    ·
      exact absurd rfl h30
  ·
    exact absurd rfl h27

end Go.Proofs.Ytpoahelomhjnaaa
