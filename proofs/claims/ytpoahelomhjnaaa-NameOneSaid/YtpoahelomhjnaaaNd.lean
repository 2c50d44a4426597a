/-
  What functions of this seat do: contracts, proved by walks; each with the conditions that it names.
-/
import Derived.Test.YtpoahelomhjnaaaNb
set_option linter.unusedVariables false
set_option linter.unusedSimpArgs false
namespace Go.Proofs.Ytpoahelomhjnaaa
open Go Go.RowKit KE Go.Proofs

theorem RdL.at {α : Type} {w : World} {b o n c i : Nat} {f : α → Value} {xs : List α} {x : α} (h : RdL w (.slice (some ⟨b, o, none⟩) n c) f xs) (hx : xs[i]? = some x) : w.cell? ⟨b, o + i * 1, none⟩ = some (f x) := by
  obtain ⟨b', o', e, hc⟩ := h.el hx
  cases e
  exact hc
theorem pre_rd2 {w : World} {a : Option Addr} {c : Nat} {V U r : List ByteArray} (hv : V = U ++ r) (h : RdC w (.slice a V.length c) 1 V.length (V.map S)) : RdL w (.slice a U.length c) S U := by
  subst hv; exact pre_rd (by simp) h
theorem tIs_fIdx {us : List ByteArray} {y : ByteArray} (h : y ∈ us) : tIs us (fIdx us y) := by
  rw [tIs, fIdx, if_pos h]
  have := List.idxOf_lt_length_of_mem h
  omega
theorem tAt_fIdx {us : List ByteArray} {y : ByteArray} (h : y ∈ us) : tAt us (fIdx us y) = y := by
  refine tAt_get (tIs_fIdx h) ?_
  rw [fIdx, if_pos h]
  have := List.idxOf_lt_length_of_mem h
  show us[us.idxOf y]? = some y
  rw [List.getElem?_eq_getElem this, List.getElem_idxOf this]
theorem nodup_ne {us : List ByteArray} {i j : Nat} {x z : ByteArray} (hn : us.Nodup) (hi : us[i]? = some x) (hj : us[j]? = some z) (h : j < i) : ¬ x = z := by
  intro e; subst e
  obtain ⟨h1, h2⟩ := List.getElem?_eq_some_iff.1 hi
  obtain ⟨h3, h4⟩ := List.getElem?_eq_some_iff.1 hj
  exact (List.pairwise_iff_getElem.1 hn) j i h3 h1 h (h4.trans h2.symm)
theorem c4 {v : Value} {ll : List (List ByteArray)} (w : World) (hL : LL w v ll) : CC Try.prog 4 [v].toArray w (fun r w' => r = .bool true ∧ Ext w w') := by
  obtain ⟨w0, e0⟩ : ∃ w0, w0 = w := ⟨w, rfl⟩
  subst e0
  have H := Hd.start w0
  obtain ⟨a, c, rfl⟩ := hL.shape
  have hle := hL.le
  refine CC.of (N := 156) Try.func4 rfl rfl rfl ?_
  refine WC.seq ?_
  refine WC.region ?_
  refine l_rd rfl rfl (x_assign ev_c) ?_
  refine WL.nil ?_
  refine WC.seq ?_
  refine WC.seq ?_
  refine WC.region ?_
  refine l_st rfl (s_callL cal6 (c6 _) ?_)
  rintro r w ⟨hr1, e1⟩
  have H := H.ext e1
  obtain rfl : r = .bool true := hr1.trans (rfl)
  refine l_rd rfl rfl (x_not rfl) ?_
  refine WL.nil ?_
  refine WC.cond0 rfl ?_
  refine WC.skip ?_
  refine WC.seq ?_
  refine WC.seq ?_
  refine WC.region ?_
  refine l_rd rfl rfl (x_move (by conv => lhs; whnf)) ?_
  refine l_st rfl (s_callL cal5 (c5 _ (hL.old (H.old 0 rfl))) ?_)
  rintro _ w ⟨⟨m, rfl, hm⟩, e1⟩
  have H := H.ext e1
  refine l_rdD rfl rfl (x_gtr rfl rfl) (fun h22 => ?_) (fun h22 => ?_)
  ·
    refine WL.nil ?_
    refine WC.cond1 rfl ?_
    refine WC.seq ?_
    refine WC.region ?_
    refine l_rd rfl rfl (x_assign ev_c) ?_
    refine WL.nil ?_
    refine WC.ret ?_
    refine atRet ?_
    exact RetM.one (v := .bool true) rfl rfl ⟨rfl, H.below 0 rfl⟩
  ·
    refine WL.nil ?_
    refine WC.cond0 rfl ?_
    refine WC.skip ?_
    refine WC.seq ?_
    have hm2 := hm (by omega)
    refine WC.region ?_
    refine l_st rfl (s_callL cal7 (c7 _ H) ?_)
    rintro _ w ⟨B, rfl, H⟩
    refine l_rd rfl rfl (x_assign (by conv => lhs; whnf)) ?_
    refine WL.nil ?_
    refine WC.seq ?_
    refine WC.region ?_
    refine l_rd rfl rfl (x_assign ev_c) ?_
    refine WL.nil ?_
    refine WC.seq ?_
    refine WC.seq ?_
    refine WC.region ?_
    refine l_rd rfl rfl (x_assign ev_c) ?_
    refine WL.nil ?_
    refine WC.block ?_
    refine WC.loop (fun ρ ds w => ∃ (k : Nat) (wv : Value), k ≤ ll.length ∧ ρ 5 = I k ∧ ρ 4 = wv ∧ ρ 3 = .pointer (some ⟨B, 0, none⟩) ∧ ρ 0 = .slice a ll.length c ∧ ds = [] ∧ Hd (sy w0) w (Sl wv 9 1 (addL [] (ll.take k).flatten).length ((addL [] (ll.take k).flatten).map S) :: BookP B (addL [] (ll.take k).flatten) :: [fr w0])) (fun ρ w => ll.length - (match ρ 5 with | .int _ k => k.toNat | _ => 0)) (⟨0, _, Nat.zero_le _, rfl, (by conv => lhs; whnf), rfl, rfl, rfl, (Hd.nil H 9 1)⟩) ?_
    repeat clear H
    rintro ρ ds w ⟨k, wv, hk, h5, h4, h3, h0, rfl, H⟩
    obtain ⟨aw, cw, rfl⟩ := (H.sl 0 rfl).shape
    have h5o := h5
    refine WC.seq ?_
    refine WC.seq ?_
    refine WC.region ?_
    refine l_rd rfl rfl (x_move h5) ?_
    refine l_rd rfl rfl (x_move h0) ?_
    refine l_rd rfl rfl (x_lenSlice Try.underlying22 rfl rfl) ?_
    refine l_rdD rfl rfl (x_lss rfl rfl) (fun h27 => ?_) (fun h27 => ?_)
    ·
      refine WL.nil ?_
      refine WC.cond1 rfl ?_
      refine WC.skip ?_
      refine WC.seq ?_
      refine WC.block ?_
      refine WC.seq ?_
      obtain ⟨ts, hts⟩ := lt_get (show k < ll.length by omega)
      obtain ⟨b1, o1, u, rfl, hc1, hu⟩ := hL.el hts
      obtain ⟨a1, c1, rfl⟩ := hu.shape
      have hul := U_len ll k
      have hus := U_sum_at hts
      obtain ⟨r0, hr0⟩ := addL_pre ts (addL [] (ll.take k).flatten)
      have hvl : (addL (addL [] (ll.take k).flatten) ts).length = (addL [] (ll.take k).flatten).length + r0.length := by rw [hr0, List.length_append]
      have hvm := addL_len (addL [] (ll.take k).flatten) ts
      refine WC.region ?_
      refine l_rd rfl rfl (x_move h3) ?_
      refine l_rd rfl rfl (x_move h0) ?_
      refine l_rd rfl rfl (x_move h5) ?_
      refine l_rd rfl rfl (x_indexAddr Try.underlying22 ty29 rfl rfl (by omega) (by omega)) ?_
      refine l_rd rfl rfl (x_load Try.underlying29 rfl rfl ((H.old 2 rfl).cell hc1)) ?_
      refine l_st rfl (s_callL cal10 (c10 (ts := addL [] (ll.take k).flatten) (texts := ts) _ (Hd.arrT [_, _, _] [1, 2, 0] (by decide) rfl H) (fun w A h => (h.old 0 rfl).rdL hu) (by omega)) ?_)
      rintro _ w ⟨ov, rfl, H⟩
      obtain ⟨ae, ce, rfl⟩ := (H.sl 0 rfl).shape
      refine l_rd rfl rfl (x_move (by conv => lhs; whnf)) ?_
      refine l_rd rfl rfl (x_extract rfl rfl) ?_
      refine l_rd rfl rfl (x_extract rfl rfl) ?_
      refine l_rd rfl rfl (x_assign (by conv => lhs; whnf)) ?_
      refine l_rd rfl rfl (x_assign (by conv => lhs; whnf)) ?_
      refine WL.nil ?_
      refine WC.seq ?_
      refine WC.seq ?_
      refine WC.region ?_
      refine l_rd rfl rfl (x_move (by conv => lhs; whnf)) ?_
      refine l_rdD rfl rfl (x_neq rfl rfl) (fun h40 => ?_) (fun h40 => ?_)
      ·
        exact absurd rfl h40
      ·
        refine l_rd rfl rfl (x_move (by conv => lhs; whnf)) ?_
        refine l_gy (wantY rfl rfl rfl) rfl rfl (x_move (by conv => lhs; whnf)) ?_
        refine l_gy (wantY rfl rfl rfl) rfl rfl (x_lenSlice Try.underlying31 rfl rfl) ?_
        refine l_gy (wantY rfl rfl rfl) rfl rfl (x_move h0) ?_
        refine l_gy (wantY rfl rfl rfl) rfl rfl (x_move h5) ?_
        refine l_gy (wantY rfl rfl rfl) rfl rfl (x_indexAddr Try.underlying22 ty29 rfl rfl (by omega) (by omega)) ?_
        refine l_gy (wantY rfl rfl rfl) rfl rfl (x_load Try.underlying29 rfl rfl ((H.old 2 rfl).cell hc1)) ?_
        refine l_gy (wantY rfl rfl rfl) rfl rfl (x_lenSlice Try.underlying29 rfl rfl) ?_
        refine l_gyD (wantY rfl rfl rfl) rfl rfl (x_neq rfl rfl) (fun h49 => ?_) (fun h49 => ?_)
        ·
          exact absurd rfl h49
        ·
          refine l_rd rfl rfl (x_pick0 rfl (by conv => lhs; whnf)) ?_
          refine WL.nil ?_
          refine WC.cond0 rfl ?_
          refine WC.skip ?_
          refine WC.seq ?_
          refine WC.seq ?_
          refine WC.region ?_
          refine l_rd rfl rfl (x_assign ev_c) ?_
          refine WL.nil ?_
          refine WC.block ?_
          refine WC.loop (fun ρ ds w => ∃ j : Nat, j ≤ ts.length ∧ ρ 8 = I j ∧ ρ 6 = .slice ae ts.length ce ∧ ρ 5 = I k ∧ ρ 4 = .slice aw (addL [] (ll.take k).flatten).length cw ∧ ρ 3 = .pointer (some ⟨B, 0, none⟩) ∧ ρ 0 = .slice (some ⟨b1, o1, none⟩) ll.length c ∧ ds = [] ∧ Hd (sy w0) w (Sl (.slice ae ts.length ce) 3 1 ts.length (ts.map fun t => I (fIdx (addL (addL [] (ll.take k).flatten) ts) t)) :: BookP B (addL (addL [] (ll.take k).flatten) ts) :: fr w0 :: [Sl (.slice aw (addL [] (ll.take k).flatten).length cw) 9 1 (addL [] (ll.take k).flatten).length ((addL [] (ll.take k).flatten).map S)])) (fun ρ w => ts.length - (match ρ 8 with | .int _ k => k.toNat | _ => 0)) (⟨0, Nat.zero_le _, rfl, rfl, h5, h4, h3, h0, rfl, H⟩) ?_
          repeat clear H
          rintro ρ ds w ⟨j, hj, h8, h6, h5, h4, h3, h0, rfl, H⟩
          refine WC.seq ?_
          refine WC.seq ?_
          refine WC.region ?_
          refine l_rd rfl rfl (x_move h8) ?_
          refine l_rd rfl rfl (x_move h6) ?_
          refine l_rd rfl rfl (x_lenSlice Try.underlying31 rfl rfl) ?_
          refine l_rdD rfl rfl (x_lss rfl rfl) (fun h54 => ?_) (fun h54 => ?_)
          ·
            refine WL.nil ?_
            refine WC.cond1 rfl ?_
            refine WC.skip ?_
            refine WC.seq ?_
            refine WC.block ?_
            refine WC.seq ?_
            obtain ⟨y, hyj⟩ := lt_get (show j < ts.length by omega)
            have hyV : y ∈ addL (addL [] (ll.take k).flatten) ts := mem_addL (List.mem_of_getElem? hyj)
            have hyn : (ts.map (fIdx (addL (addL [] (ll.take k).flatten) ts)))[j]? = some (fIdx (addL (addL [] (ll.take k).flatten) ts) y) := by rw [List.getElem?_map, hyj]; rfl
            obtain ⟨b3, o3, rfl, hc3⟩ := hu.el hyj
            obtain ⟨b4, o4, rfl, hc4⟩ := (nums_rd (H.sl 0 rfl)).el hyn
            refine WC.region ?_
            refine l_rd rfl rfl (x_move h3) ?_
            refine l_rd rfl rfl (x_move h6) ?_
            refine l_rd rfl rfl (x_move h8) ?_
            refine l_rd rfl rfl (x_indexAddr Try.underlying31 ty3 rfl rfl (by omega) (by omega)) ?_
            refine l_rd rfl rfl (x_load Try.underlying3 rfl rfl (RdL.at (nums_rd (H.sl 0 rfl)) hyn)) ?_
            refine l_st rfl (s_callL cal14 (c14 (n := fIdx (addL (addL [] (ll.take k).flatten) ts) y) _ (BookP.rd H 1 rfl)) ?_)
            rintro r w ⟨hr1, e1⟩
            have H := H.ext e1
            obtain rfl : r = .tuple #[S y, .bool true] := hr1.trans (by rw [tAt_fIdx hyV, decide_eq_true (tIs_fIdx hyV)])
            refine l_rd rfl rfl (x_move (by conv => lhs; whnf)) ?_
            refine l_rd rfl rfl (x_extract rfl rfl) ?_
            refine l_rd rfl rfl (x_extract rfl rfl) ?_
            refine l_rd rfl rfl (x_assign (by conv => lhs; whnf)) ?_
            refine l_rd rfl rfl (x_assign (by conv => lhs; whnf)) ?_
            refine WL.nil ?_
            refine WC.seq ?_
            refine WC.region ?_
            refine l_rd rfl rfl (x_move h3) ?_
            refine l_rd rfl rfl (x_move h0) ?_
            refine l_rd rfl rfl (x_move h5) ?_
            refine l_rd rfl rfl (x_indexAddr Try.underlying22 ty29 rfl rfl (by omega) (by omega)) ?_
            refine l_rd rfl rfl (x_load Try.underlying29 rfl rfl ((H.old 2 rfl).cell hc1)) ?_
            refine l_rd rfl rfl (x_move h8) ?_
            refine l_rd rfl rfl (x_indexAddr Try.underlying29 ty9 rfl rfl (by omega) (by omega)) ?_
            refine l_rd rfl rfl (x_load Try.underlying9 rfl rfl ((H.old 2 rfl).cell hc3)) ?_
            refine l_st rfl (s_callL cal12 (c12 (x := y) _ (BookP.rd H 1 rfl)) ?_)
            rintro r w ⟨hr1, e1⟩
            have H := H.ext e1
            obtain rfl : r = .tuple #[I (fIdx (addL (addL [] (ll.take k).flatten) ts) y), .bool true] := hr1.trans (by rw [decide_eq_true hyV])
            refine l_rd rfl rfl (x_move (by conv => lhs; whnf)) ?_
            refine l_rd rfl rfl (x_extract rfl rfl) ?_
            refine l_rd rfl rfl (x_extract rfl rfl) ?_
            refine l_rd rfl rfl (x_assign (by conv => lhs; whnf)) ?_
            refine l_rd rfl rfl (x_assign (by conv => lhs; whnf)) ?_
            refine WL.nil ?_
            refine WC.seq ?_
            refine WC.region ?_
            refine l_rd rfl rfl (x_move (by conv => lhs; whnf)) ?_
            refine l_rd rfl rfl (x_not rfl) ?_
            refine l_rd rfl rfl (x_move (by conv => lhs; whnf)) ?_
            refine l_gy (wantY rfl rfl rfl) rfl rfl (x_move (by conv => lhs; whnf)) ?_
            refine l_gy (wantY rfl rfl rfl) rfl rfl (x_not rfl) ?_
            refine l_rd rfl rfl (x_pick0 rfl (by conv => lhs; whnf)) ?_
            refine l_rd rfl rfl (x_move (by conv => lhs; whnf)) ?_
            refine l_gy (wantY rfl rfl rfl) rfl rfl (x_move (by conv => lhs; whnf)) ?_
            refine l_gy (wantY rfl rfl rfl) rfl rfl (x_move h0) ?_
            refine l_gy (wantY rfl rfl rfl) rfl rfl (x_move h5) ?_
            refine l_gy (wantY rfl rfl rfl) rfl rfl (x_indexAddr Try.underlying22 ty29 rfl rfl (by omega) (by omega)) ?_
            refine l_gy (wantY rfl rfl rfl) rfl rfl (x_load Try.underlying29 rfl rfl ((H.old 2 rfl).cell hc1)) ?_
            refine l_gy (wantY rfl rfl rfl) rfl rfl (x_move h8) ?_
            refine l_gy (wantY rfl rfl rfl) rfl rfl (x_indexAddr Try.underlying29 ty9 rfl rfl (by omega) (by omega)) ?_
            refine l_gy (wantY rfl rfl rfl) rfl rfl (x_load Try.underlying9 rfl rfl ((H.old 2 rfl).cell hc3)) ?_
            refine l_gyD (wantY rfl rfl rfl) rfl rfl (x_neqS rfl rfl) (fun h93 => ?_) (fun h93 => ?_)
            ·
              exact absurd rfl h93
            ·
              refine l_rd rfl rfl (x_pick0 rfl (by conv => lhs; whnf)) ?_
              refine l_rd rfl rfl (x_move (by conv => lhs; whnf)) ?_
              refine l_gy (wantY rfl rfl rfl) rfl rfl (x_move (by conv => lhs; whnf)) ?_
              refine l_gy (wantY rfl rfl rfl) rfl rfl (x_move h6) ?_
              refine l_gy (wantY rfl rfl rfl) rfl rfl (x_move h8) ?_
              refine l_gy (wantY rfl rfl rfl) rfl rfl (x_indexAddr Try.underlying31 ty3 rfl rfl (by omega) (by omega)) ?_
              refine l_gy (wantY rfl rfl rfl) rfl rfl (x_load Try.underlying3 rfl rfl (RdL.at (nums_rd (H.sl 0 rfl)) hyn)) ?_
              refine l_gyD (wantY rfl rfl rfl) rfl rfl (x_neq rfl rfl) (fun h101 => ?_) (fun h101 => ?_)
              ·
                exact absurd rfl h101
              ·
                refine l_rd rfl rfl (x_pick0 rfl (by conv => lhs; whnf)) ?_
                refine WL.nil ?_
                refine WC.cond0 rfl ?_
                refine WC.skip ?_
                refine WC.region ?_
                refine l_rd rfl rfl (x_move h8) ?_
                refine l_rd rfl rfl (x_add rfl rfl (by omega) (by omega)) ?_
                refine l_rd rfl rfl (x_assign (by conv => lhs; whnf)) ?_
                refine WL.nil ?_
                refine WC.again (⟨j + 1, by omega, rfl, h6, h5, h4, h3, h0, rfl, H⟩) (by show _ - _ < _ - _; rw [h8]; show ts.length - ((j : Int) + 1).toNat < ts.length - (j : Int).toNat; omega)
          ·
            refine WL.nil ?_
            refine WC.cond0 rfl ?_
            refine WC.exit ?_
            refine WC.seq ?_
            refine WC.region ?_
            refine l_rd rfl rfl (x_move h3) ?_
            refine l_st rfl (s_callL cal22 (c22 (many := 400) _ (Hd.arrT [_, _] [1, 0] (by decide) rfl H) (by omega) (by omega)) ?_)
            rintro r w H
            obtain ⟨aa, ca, rfl⟩ := (H.sl 0 rfl).shape
            have hca := (H.cap 0 rfl).1
            refine l_rd rfl rfl (x_assign (by conv => lhs; whnf)) ?_
            refine WL.nil ?_
            refine WC.seq ?_
            refine WC.seq ?_
            refine WC.region ?_
            refine l_rd rfl rfl (x_move (by conv => lhs; whnf)) ?_
            refine l_rd rfl rfl (x_lenSlice Try.underlying29 rfl rfl) ?_
            refine l_rd rfl rfl (x_move h3) ?_
            refine l_st rfl (s_callL cal17 (c17 _ (BookP.rd H 1 rfl)) ?_)
            rintro _ w ⟨rfl, e1⟩
            have H := H.ext e1
            refine l_rdD rfl rfl (x_neq rfl rfl) (fun h109 => ?_) (fun h109 => ?_)
            ·
              exact absurd rfl h109
            ·
              refine l_rd rfl rfl (x_move (by conv => lhs; whnf)) ?_
              refine l_gy (wantY rfl rfl rfl) rfl rfl (x_move (by conv => lhs; whnf)) ?_
              refine l_gy (wantY rfl rfl rfl) rfl rfl (x_lenSlice Try.underlying29 rfl rfl) ?_
              refine l_gy (wantY rfl rfl rfl) rfl rfl (x_move h4) ?_
              refine l_gy (wantY rfl rfl rfl) rfl rfl (x_lenSlice Try.underlying29 rfl rfl) ?_
              refine l_gyD (wantY rfl rfl rfl) rfl rfl (x_lss rfl rfl) (fun h115 => ?_) (fun h115 => ?_)
              ·
                exfalso; omega
              ·
                refine l_rd rfl rfl (x_pick0 rfl (by conv => lhs; whnf)) ?_
                refine l_rd rfl rfl (x_move (by conv => lhs; whnf)) ?_
                refine l_gy (wantY rfl rfl rfl) rfl rfl (x_move (by conv => lhs; whnf)) ?_
                refine l_gy (wantY rfl rfl rfl) rfl rfl (x_move h4) ?_
                refine l_gy (wantY rfl rfl rfl) rfl rfl (x_lenSlice Try.underlying29 rfl rfl) ?_
                refine l_gy (wantY rfl rfl rfl) rfl rfl (x_sliceTo Try.underlying29 ty9 rfl rfl (by omega) (by omega)) ?_
                refine l_gy (wantY rfl rfl rfl) rfl rfl (x_move h4) ?_
                refine l_gst (wantY rfl rfl rfl) rfl (s_callL cal21 (c21 (xs := addL [] (ll.take k).flatten) (ys := addL [] (ll.take k).flatten) _ (pre_rd2 hr0 (H.sl 0 rfl)) (H.sl 4 rfl)) ?_)
                rintro r w ⟨hr1, e1⟩
                have H := H.ext e1
                obtain rfl : r = .bool true := hr1.trans (by rw [decide_eq_true rfl])
                refine l_gy (wantY rfl rfl rfl) rfl rfl (x_not rfl) ?_
                refine l_rd rfl rfl (x_pick0 rfl (by conv => lhs; whnf)) ?_
                refine WL.nil ?_
                refine WC.cond0 rfl ?_
                refine WC.skip ?_
                refine WC.region ?_
                refine l_rd rfl rfl (x_move (by conv => lhs; whnf)) ?_
                refine l_rd rfl rfl (x_assign (by conv => lhs; whnf)) ?_
                refine WL.nil ?_
                refine WC.region ?_
                refine l_rd rfl rfl (x_move h5) ?_
                refine l_rd rfl rfl (x_add rfl rfl (by omega) (by omega)) ?_
                refine l_rd rfl rfl (x_assign (by conv => lhs; whnf)) ?_
                refine WL.nil ?_
                refine WC.again (⟨k + 1, _, by omega, rfl, (by conv => lhs; whnf), h3, h0, rfl, by rw [U_succ hts]; exact Hd.arrT [_, _, _, _, _] [0, 1, 3] (by decide) rfl H⟩) (by show _ - _ < _ - _; rw [h5o]; show ll.length - ((k : Int) + 1).toNat < ll.length - (k : Int).toNat; omega)
    ·
      refine WL.nil ?_
      refine WC.cond0 rfl ?_
      refine WC.exit ?_
      refine WC.seq ?_
      refine WC.seq ?_
      refine WC.region ?_
      refine l_rd rfl rfl (x_assign ev_c) ?_
      refine WL.nil ?_
      refine WC.block ?_
      refine WC.loop (fun ρ ds w => ∃ i : Nat, i ≤ (addL [] (ll.take k).flatten).length ∧ ρ 14 = I i ∧ ρ 4 = .slice aw (addL [] (ll.take k).flatten).length cw ∧ ρ 3 = .pointer (some ⟨B, 0, none⟩) ∧ ds = [] ∧ Hd (sy w0) w (Sl (.slice aw (addL [] (ll.take k).flatten).length cw) 9 1 (addL [] (ll.take k).flatten).length ((addL [] (ll.take k).flatten).map S) :: BookP B (addL [] (ll.take k).flatten) :: [fr w0])) (fun ρ w => (addL [] (ll.take k).flatten).length - (match ρ 14 with | .int _ k => k.toNat | _ => 0)) (⟨0, Nat.zero_le _, rfl, h4, h3, rfl, H⟩) ?_
      repeat clear H
      rintro ρ ds w ⟨i, hi, h14, h4, h3, rfl, H⟩
      have h14o := h14
      have hnd := (BookP.rd H 1 rfl).1
      have hule := (BookP.rd H 1 rfl).le
      refine WC.seq ?_
      refine WC.seq ?_
      refine WC.region ?_
      refine l_rd rfl rfl (x_move h14) ?_
      refine l_rd rfl rfl (x_move h4) ?_
      refine l_rd rfl rfl (x_lenSlice Try.underlying29 rfl rfl) ?_
      refine l_rdD rfl rfl (x_lss rfl rfl) (fun h130 => ?_) (fun h130 => ?_)
      ·
        refine WL.nil ?_
        refine WC.cond1 rfl ?_
        refine WC.skip ?_
        refine WC.seq ?_
        refine WC.block ?_
        refine WC.seq ?_
        refine WC.region ?_
        refine l_rd rfl rfl (x_assign ev_c) ?_
        refine WL.nil ?_
        refine WC.block ?_
        refine WC.loop (fun ρ ds w => ∃ j : Nat, j ≤ i ∧ ρ 15 = I j ∧ ρ 14 = I i ∧ ρ 4 = .slice aw (addL [] (ll.take k).flatten).length cw ∧ ρ 3 = .pointer (some ⟨B, 0, none⟩) ∧ ds = [] ∧ Hd (sy w0) w (Sl (.slice aw (addL [] (ll.take k).flatten).length cw) 9 1 (addL [] (ll.take k).flatten).length ((addL [] (ll.take k).flatten).map S) :: BookP B (addL [] (ll.take k).flatten) :: [fr w0])) (fun ρ w => i - (match ρ 15 with | .int _ k => k.toNat | _ => 0)) (⟨0, Nat.zero_le _, rfl, h14, h4, h3, rfl, H⟩) ?_
        repeat clear H
        rintro ρ ds w ⟨j, hj, h15, h14, h4, h3, rfl, H⟩
        refine WC.seq ?_
        refine WC.seq ?_
        refine WC.region ?_
        refine l_rd rfl rfl (x_move h15) ?_
        refine l_rd rfl rfl (x_move h14) ?_
        refine l_rdD rfl rfl (x_lss rfl rfl) (fun h135 => ?_) (fun h135 => ?_)
        ·
          refine WL.nil ?_
          refine WC.cond1 rfl ?_
          refine WC.skip ?_
          refine WC.seq ?_
          refine WC.block ?_
          refine WC.seq ?_
          obtain ⟨x, hxi⟩ := lt_get (show i < (addL [] (ll.take k).flatten).length by omega)
          obtain ⟨z, hxj⟩ := lt_get (show j < (addL [] (ll.take k).flatten).length by omega)
          obtain ⟨b5, o5, rfl, hc5⟩ := (show RdL _ _ S (addL [] (ll.take k).flatten) from H.sl 0 rfl).el hxi
          refine WC.draw mixed [] [[], [], [0, 1], [0, 1, 2], [], [], [4, 5], [4, 5, 6], [0, 1, 2, 3, 4, 5, 6, 7]] [0, 1, 2, 3, 4, 5, 6, 7, 8] (by kernel_rfl) ?_
          have H := H.drew
          refine k_rd rfl rfl (RS.of rfl rfl (x_move h4)) ?_
          refine k_rd rfl rfl (RS.of rfl rfl (x_move h14)) ?_
          refine k_rd rfl rfl (RS.of rfl rfl (x_indexAddr Try.underlying29 ty9 rfl rfl (by omega) (by omega))) ?_
          refine k_rd rfl rfl (RS.of rfl rfl (x_load Try.underlying9 rfl rfl (RdL.at (H.sl 0 rfl) hxi))) ?_
          refine k_rd rfl rfl (RS.of rfl rfl (x_move h4)) ?_
          refine k_rd rfl rfl (RS.of rfl rfl (x_move h15)) ?_
          refine k_rd rfl rfl (RS.of rfl rfl (x_indexAddr Try.underlying29 ty9 rfl rfl (by omega) (by omega))) ?_
          refine k_rd rfl rfl (RS.of rfl rfl (x_load Try.underlying9 rfl rfl (RdL.at (H.sl 0 rfl) hxj))) ?_
          refine k_rdD rfl rfl rfl rfl (x_eqlS rfl rfl) (fun h146 => ?_) (fun h146 => ?_)
          ·
            exfalso; exact nodup_ne hnd hxi hxj (by omega) h146
          ·
            show _
            refine WC.cond0 rfl ?_
            refine WC.skip ?_
            refine WC.region ?_
            refine l_rd rfl rfl (x_move h15) ?_
            refine l_rd rfl rfl (x_add rfl rfl (by omega) (by omega)) ?_
            refine l_rd rfl rfl (x_assign (by conv => lhs; whnf)) ?_
            refine WL.nil ?_
            refine WC.again (⟨j + 1, by omega, rfl, h14, h4, h3, rfl, H⟩) (by show _ - _ < _ - _; rw [h15]; show i - ((j : Int) + 1).toNat < i - (j : Int).toNat; omega)
        ·
          refine WL.nil ?_
          refine WC.cond0 rfl ?_
          refine WC.exit ?_
          refine WC.region ?_
          refine l_rd rfl rfl (x_move h14) ?_
          refine l_rd rfl rfl (x_add rfl rfl (by omega) (by omega)) ?_
          refine l_rd rfl rfl (x_assign (by conv => lhs; whnf)) ?_
          refine WL.nil ?_
          refine WC.again (⟨i + 1, by omega, rfl, h4, h3, rfl, H⟩) (by show _ - _ < _ - _; rw [h14o]; show (addL [] (ll.take k).flatten).length - ((i : Int) + 1).toNat < (addL [] (ll.take k).flatten).length - (i : Int).toNat; omega)
      ·
        refine WL.nil ?_
        refine WC.cond0 rfl ?_
        refine WC.exit ?_
        refine WC.seq ?_
        refine WC.region ?_
        refine l_rd rfl rfl (x_move h3) ?_
        refine l_rd rfl rfl (x_move h3) ?_
        refine l_st rfl (s_callL cal17 (c17 _ (BookP.rd H 1 rfl)) ?_)
        rintro _ w ⟨rfl, e1⟩
        have H := H.ext e1
        refine l_st rfl (s_callL cal14 (c14 (n := ((addL [] (ll.take k).flatten).length : Nat)) _ (BookP.rd H 1 rfl)) ?_)
        rintro r w ⟨hr1, e1⟩
        have H := H.ext e1
        obtain rfl : r = .tuple #[S ⟨#[]⟩, .bool false] := hr1.trans (by rw [tAt, if_neg (fun h => by unfold tIs at h; omega), decide_eq_false (fun h => by unfold tIs at h; omega)])
        refine l_rd rfl rfl (x_move (by conv => lhs; whnf)) ?_
        refine l_rd rfl rfl (x_extract rfl rfl) ?_
        refine l_rd rfl rfl (x_extract rfl rfl) ?_
        refine l_rd rfl rfl (x_assign (by conv => lhs; whnf)) ?_
        refine l_rd rfl rfl (x_assign (by conv => lhs; whnf)) ?_
        refine WL.nil ?_
        refine WC.seq ?_
        refine WC.region ?_
        refine l_rd rfl rfl (x_move (by conv => lhs; whnf)) ?_
        refine l_rd rfl rfl (x_not rfl) ?_
        refine l_rd rfl rfl (x_assign (by conv => lhs; whnf)) ?_
        refine WL.nil ?_
        refine WC.ret ?_
        refine atRet ?_
        exact RetM.one (v := .bool true) rfl rfl ⟨rfl, H.below 2 rfl⟩

end Go.Proofs.Ytpoahelomhjnaaa
