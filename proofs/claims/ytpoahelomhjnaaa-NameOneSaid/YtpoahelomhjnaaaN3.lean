/-
  What functions of this seat do: contracts, proved by walks; each with the conditions that it names.
-/
import Derived.Test.YtpoahelomhjnaaaN2
set_option linter.unusedVariables false
set_option linter.unusedSimpArgs false
namespace Go.Proofs.Ytpoahelomhjnaaa
open Go Go.RowKit KE Go.Proofs
theorem cal25 : Cal Try.prog 25 := ⟨_, Try.func25, rfl, by decide⟩
theorem c9 {s : Sy} {L : List Hp} {v : Value} {ts : List ByteArray} (w : World) (H : Hd s w L) (hr : ∀ w (A : List Hp), Hd s w (A ++ L) → RdL w v S ts) (hb : ts.length ≤ 1000) : CC Try.prog 9 [v].toArray w (fun r w' => ∃ a c, r = .slice a ts.length c ∧ Hd s w' (Sl (.slice a (ts.length + 12) c) 9 1 (ts.length + 12) ((ts ++ marksK 12).map S) :: L)) := by
  obtain ⟨a, c, rfl⟩ := (hr w [] H).shape
  refine CC.of (N := 25) Try.func9 rfl rfl rfl ?_
  refine WC.seq ?_
  refine WC.region ?_
  refine l_rd rfl rfl (x_assign ev_c) ?_
  refine WL.nil ?_
  refine WC.seq ?_
  refine WC.region ?_
  refine l_rd rfl rfl (x_move (by conv => lhs; whnf)) ?_
  refine l_rd rfl rfl (x_lenSlice Try.underlying29 rfl rfl) ?_
  refine l_rd rfl rfl (x_add rfl rfl (by omega) (by omega)) ?_
  refine l_st rfl (s_makeSlice0 (m := (ts.length + 12)) Try.underlying29 ty9 rfl (by decide) rfl rfl (by omega) (by omega) (by omega) H fun b8 w H => ?_)
  refine l_rd rfl rfl (x_assign (by conv => lhs; whnf)) ?_
  refine WL.nil ?_
  refine WC.seq ?_
  refine WC.region ?_
  refine l_rd rfl rfl (x_move (by conv => lhs; whnf)) ?_
  refine l_rd rfl rfl (x_move (by conv => lhs; whnf)) ?_
  refine l_st rfl (s_append Try.underlying29 ty9 rfl (by decide) (by decide) rfl 0 rfl rfl rfl (hr _ [_] H) (fun v hv => by obtain ⟨x, _, rfl⟩ := List.mem_map.1 hv; rfl) (by omega) H fun v11 w H => ?_)
  obtain ⟨a11, c11, rfl⟩ := (H.sl 0 rfl).shape
  refine l_rd rfl rfl (x_assign (by conv => lhs; whnf)) ?_
  refine WL.nil ?_
  refine WC.seq ?_
  refine WC.seq ?_
  refine WC.region ?_
  refine l_rd rfl rfl (x_assign ev_c) ?_
  refine WL.nil ?_
  refine WC.block ?_
  refine WC.loop (fun ρ ds w => ∃ (k : Nat) (v : Value), k ≤ 12 ∧ ρ 4 = I k ∧ ρ 3 = v ∧ ρ 0 = .slice a ts.length c ∧ ds = [] ∧ Hd s w (Sl v 9 1 (ts.length + k) ((ts ++ marksK k).map S) :: L)) (fun ρ w => 12 - (match ρ 4 with | .int _ k => k.toNat | _ => 0)) (⟨0, _, by omega, rfl, (by conv => lhs; whnf), rfl, rfl, by simpa [marksK] using H⟩) ?_
  repeat clear H
  rintro ρ ds w ⟨k, v, hk, h4, h3, h0, rfl, H⟩
  refine WC.seq ?_
  refine WC.seq ?_
  refine WC.region ?_
  refine l_rd rfl rfl (x_move h4) ?_
  refine l_rdD rfl rfl (x_lss rfl rfl) (fun h13 => ?_) (fun h13 => ?_)
  ·
    refine WL.nil ?_
    refine WC.cond1 rfl ?_
    refine WC.skip ?_
    refine WC.seq ?_
    refine WC.block ?_
    refine WC.region ?_
    refine l_rd rfl rfl (x_move h3) ?_
    refine l_rd rfl rfl (x_move h4) ?_
    refine l_st rfl (s_callL cal25 (c25 _) ?_)
    rintro _ w ⟨rfl, e1⟩
    have H := H.ext e1
    refine l_st rfl (s_build1 Try.underlying29 ty9 rfl (by conv => lhs; whnf) rfl H fun b19 w H => ?_)
    refine l_st rfl (s_append Try.underlying29 ty9 rfl (by decide) (by decide) rfl 1 rfl rfl rfl (H.sl 0 rfl) (by simp [Value.oneCell']) (by omega) H fun v20 w H => ?_)
    obtain ⟨a20, c20, rfl⟩ := (H.sl 1 rfl).shape
    refine l_rd rfl rfl (x_assign (by conv => lhs; whnf)) ?_
    refine WL.nil ?_
    refine WC.region ?_
    refine l_rd rfl rfl (x_move h4) ?_
    refine l_rd rfl rfl (x_add rfl rfl (by omega) (by omega)) ?_
    refine l_rd rfl rfl (x_assign (by conv => lhs; whnf)) ?_
    refine WL.nil ?_
    refine WC.again (⟨k + 1, _, by omega, rfl, (by conv => lhs; whnf), h0, rfl, by rw [marksK_succ, ← List.append_assoc, List.map_append]; exact H.drop⟩) (by show _ - _ < _ - _; rw [h4]; show 12 - ((k : Int) + 1).toNat < 12 - (k : Int).toNat; omega)
  ·
    refine WL.nil ?_
    refine WC.cond0 rfl ?_
    refine WC.exit ?_
    refine WC.seq ?_
    obtain rfl : k = 12 := by omega
    obtain ⟨a2, c2, rfl⟩ := (H.sl 0 rfl).shape
    have hcap := (H.cap 0 rfl).1
    refine WC.region ?_
    refine l_rd rfl rfl (x_move h3) ?_
    refine l_rd rfl rfl (x_move h0) ?_
    refine l_rd rfl rfl (x_lenSlice Try.underlying29 rfl rfl) ?_
    refine l_rd rfl rfl (x_sliceTo Try.underlying29 ty9 rfl rfl (by omega) (by omega)) ?_
    refine l_rd rfl rfl (x_assign (by conv => lhs; whnf)) ?_
    refine WL.nil ?_
    refine WC.ret ?_
    refine atRet ?_
    exact RetM.one rfl (by (conv => lhs; whnf); try rfl) (⟨a2, c2, rfl, H⟩)

theorem c18 {a : Option Addr} {c : Nat} {v2 : Value} {ts : List ByteArray} (w : World) (hO : RdL w (.slice a (ts.length + 12) c) S (ts ++ marksK 12)) (hcap : ts.length + 12 ≤ c) (hl : RdL w v2 S ts) : CC Try.prog 18 [.slice a ts.length c, v2].toArray w (fun r w' => r = .bool true ∧ Ext w w') := by
  obtain ⟨w0, e0⟩ : ∃ w0, w0 = w := ⟨w, rfl⟩
  subst e0
  have H := Hd.start w0
  obtain ⟨a2, c2, rfl⟩ := hl.shape
  have hle := hl.le
  refine CC.of (N := 58) Try.func18 rfl rfl rfl ?_
  refine WC.seq ?_
  refine WC.region ?_
  refine l_rd rfl rfl (x_assign ev_c) ?_
  refine WL.nil ?_
  refine WC.seq ?_
  refine WC.seq ?_
  refine WC.region ?_
  refine l_rd rfl rfl (x_move (by conv => lhs; whnf)) ?_
  refine l_rd rfl rfl (x_lenSlice Try.underlying29 rfl rfl) ?_
  refine l_rd rfl rfl (x_move (by conv => lhs; whnf)) ?_
  refine l_rd rfl rfl (x_lenSlice Try.underlying29 rfl rfl) ?_
  refine l_rdD rfl rfl (x_neq rfl rfl) (fun h11 => ?_) (fun h11 => ?_)
  ·
    exact absurd rfl h11
  ·
    refine WL.nil ?_
    refine WC.cond0 rfl ?_
    refine WC.skip ?_
    refine WC.seq ?_
    refine WC.region ?_
    refine l_rd rfl rfl (x_move (by conv => lhs; whnf)) ?_
    refine l_rd rfl rfl (x_move (by conv => lhs; whnf)) ?_
    refine l_rd rfl rfl (x_lenSlice Try.underlying29 rfl rfl) ?_
    refine l_rd rfl rfl (x_add rfl rfl (by omega) (by omega)) ?_
    refine l_rd rfl rfl (x_sliceTo Try.underlying29 ty9 rfl rfl (by omega) (by omega)) ?_
    refine l_rd rfl rfl (x_assign (by conv => lhs; whnf)) ?_
    refine WL.nil ?_
    refine WC.seq ?_
    refine WC.seq ?_
    refine WC.region ?_
    refine l_rd rfl rfl (x_assign ev_c) ?_
    refine WL.nil ?_
    refine WC.block ?_
    refine WC.loop (fun ρ ds w => ∃ k : Nat, k ≤ ts.length + 12 ∧ ρ 6 = I k ∧ ρ 5 = .slice a (ts.length + 12) c ∧ ρ 1 = .slice a2 ts.length c2 ∧ ds = [] ∧ Hd (sy w0) w [fr w0]) (fun ρ w => ts.length + 12 - (match ρ 6 with | .int _ k => k.toNat | _ => 0)) (⟨0, Nat.zero_le _, rfl, rfl, rfl, rfl, H⟩) ?_
    repeat clear H
    rintro ρ ds w ⟨k, hk, h6, h5, h1, rfl, H⟩
    refine WC.seq ?_
    refine WC.seq ?_
    refine WC.region ?_
    refine l_rd rfl rfl (x_move h6) ?_
    refine l_rd rfl rfl (x_move h5) ?_
    refine l_rd rfl rfl (x_lenSlice Try.underlying29 rfl rfl) ?_
    refine l_rdD rfl rfl (x_lss rfl rfl) (fun h20 => ?_) (fun h20 => ?_)
    ·
      refine WL.nil ?_
      refine WC.cond1 rfl ?_
      refine WC.skip ?_
      refine WC.seq ?_
      refine WC.block ?_
      refine WC.seq ?_
      refine WC.draw mixed [30] [[], [], [1], [0, 1, 2], [0, 1, 2, 3], [0, 1, 2, 3, 4], [0, 1, 2, 3, 4], [0, 1, 2, 3, 4, 5, 6], [0, 1, 2, 3, 4, 5, 6, 7], [0, 1, 2, 3, 4], [0, 1, 2, 3, 4], [0, 1, 2, 3, 4, 9, 10], [0, 1, 2, 3, 4, 9, 10, 11], [0, 1, 2, 3, 4, 5, 6, 7, 8, 9, 10, 11, 12], [0, 1, 2, 3, 4, 5, 6, 7, 8, 9, 10, 11, 12, 13], [0, 1, 2, 3, 4, 5, 6, 7, 8, 9, 10, 11, 12, 13, 14], [0, 1, 2, 3, 4, 5, 6, 7, 8, 9, 10, 11, 12, 13, 14, 15], [0, 1, 2, 3, 4, 5, 6, 7, 8, 9, 10, 11, 12, 13, 14, 15, 16], [0, 1, 2, 3, 4, 5, 6, 7, 8, 9, 10, 11, 12, 13, 14, 15, 16], [0, 1, 2, 3, 4, 5, 6, 7, 8, 9, 10, 11, 12, 13, 14, 15, 16, 18], [0, 1, 2, 3, 4, 5, 6, 7, 8, 9, 10, 11, 12, 13, 14, 15, 16, 17, 18, 19], [0, 1, 2, 3, 4, 5, 6, 7, 8, 9, 10, 11, 12, 13, 14, 15, 16, 17, 18, 19, 20], [0, 1, 2, 3, 4, 5, 6, 7, 8, 9, 10, 11, 12, 13, 14, 15, 16, 17, 18, 19, 20, 21], [0, 1, 2, 3, 4, 5, 6, 7, 8, 9, 10, 11, 12, 13, 14, 15, 16, 17, 18, 19, 20, 21], [0, 1, 2, 3, 4, 5, 6, 7, 8, 9, 10, 11, 12, 13, 14, 15, 16, 17, 18, 19, 20, 21, 22, 23], [0, 1, 2, 3, 4, 5, 6, 7, 8, 9, 10, 11, 12, 13, 14, 15, 16, 17, 18, 19, 20, 21, 22, 23, 24], [0, 1, 2, 3, 4, 5, 6, 7, 8, 9, 10, 11, 12, 13, 14, 15, 16, 17, 18, 19, 20, 21], [0, 1, 2, 3, 4, 5, 6, 7, 8, 9, 10, 11, 12, 13, 14, 15, 16, 17, 18, 19, 20, 21], [0, 1, 2, 3, 4, 5, 6, 7, 8, 9, 10, 11, 12, 13, 14, 15, 16, 17, 18, 19, 20, 21, 27], [0, 1, 2, 3, 4, 5, 6, 7, 8, 9, 10, 11, 12, 13, 14, 15, 16, 17, 18, 19, 20, 21, 26, 27, 28], [0, 1, 2, 3, 4, 5, 6, 7, 8, 9, 10, 11, 12, 13, 14, 15, 16, 17, 18, 19, 20, 21, 26, 27, 28, 29], [0, 1, 2, 3, 4, 5, 6, 7, 8, 9, 10, 11, 12, 13, 14, 15, 16, 17, 18, 19, 20, 21, 22, 23, 24, 25, 26, 27, 28, 29, 30], [0, 1, 2, 3, 4, 5, 6, 7, 8, 9, 10, 11, 12, 13, 14, 15, 16, 17, 18, 19, 20, 21, 22, 23, 24, 25, 26, 27, 28, 29, 30, 31], [0, 1, 2, 3, 4, 5, 6, 7, 8, 9, 10, 11, 12, 13, 14, 15, 16, 17, 18, 19, 20, 21, 22, 23, 24, 25, 26, 27, 28, 29, 30, 31, 32], [0, 1, 2, 3, 4, 5, 6, 7, 8, 9, 10, 11, 12, 13, 14, 15, 16, 17, 18, 19, 20, 21, 22, 23, 24, 25, 26, 27, 28, 29, 30, 31, 32, 33]] [0, 1, 2, 3, 4, 5, 6, 7, 8, 9, 10, 11, 12, 13, 14, 15, 16, 17, 18, 19, 20, 21, 22, 23, 24, 25, 26, 27, 28, 29, 30, 31, 32, 33, 34] (by kernel_rfl) ?_
      have H := H.drew
      refine k_rd rfl rfl (RS.of rfl rfl (x_move h6)) ?_
      refine k_rd rfl rfl (RS.of rfl rfl (x_move h1)) ?_
      refine k_rd rfl rfl (RS.of rfl rfl (x_lenSlice Try.underlying29 rfl rfl)) ?_
      refine k_rdD rfl rfl rfl rfl (x_lss rfl rfl) (fun h26 => ?_) (fun h26 => ?_)
      ·
        obtain ⟨y, hy⟩ := lt_get (show k < ts.length by omega)
        obtain ⟨b1, o1, rfl, hc1⟩ := hO.el (show (ts ++ marksK 12)[k]? = some y by rw [List.getElem?_append_left (by omega)]; exact hy)
        obtain ⟨b2, o2, rfl, hc2⟩ := hl.el hy
        refine k_rd rfl rfl (RS.of rfl rfl (x_move (by conv => lhs; whnf))) ?_
        refine k_rd rfl rfl (RS.yes rfl (wantY rfl rfl rfl) (x_move h5)) ?_
        refine k_rd rfl rfl (RS.yes rfl (wantY rfl rfl rfl) (x_move h6)) ?_
        refine k_rd rfl rfl (RS.yes rfl (wantY rfl rfl rfl) (x_indexAddr Try.underlying29 ty9 rfl rfl (by omega) (by omega))) ?_
        refine k_rd rfl rfl (RS.yes rfl (wantY rfl rfl rfl) (x_load Try.underlying9 rfl rfl ((H.old 0 rfl).cell hc1))) ?_
        refine k_rd rfl rfl (RS.yes rfl (wantY rfl rfl rfl) (x_move h1)) ?_
        refine k_rd rfl rfl (RS.yes rfl (wantY rfl rfl rfl) (x_move h6)) ?_
        refine k_rd rfl rfl (RS.yes rfl (wantY rfl rfl rfl) (x_indexAddr Try.underlying29 ty9 rfl rfl (by omega) (by omega))) ?_
        refine k_rd rfl rfl (RS.yes rfl (wantY rfl rfl rfl) (x_load Try.underlying9 rfl rfl ((H.old 0 rfl).cell hc2))) ?_
        refine k_rdD rfl rfl (wantY rfl rfl rfl) rfl (x_eqlS rfl rfl) (fun h36 => ?_) (fun h36 => ?_)
        ·
          refine k_rd rfl rfl (RS.yes rfl (wantY rfl rfl rfl) (x_not rfl)) ?_
          refine k_rd rfl rfl (RS.of rfl rfl (x_pick1 rfl (by conv => lhs; whnf))) ?_
          refine k_rd rfl rfl (RS.of rfl rfl (x_move (by conv => lhs; whnf))) ?_
          refine k_rd rfl rfl (RS.yes rfl (wantY rfl rfl rfl) (x_move h6)) ?_
          refine k_rd rfl rfl (RS.yes rfl (wantY rfl rfl rfl) (x_move h1)) ?_
          refine k_rd rfl rfl (RS.yes rfl (wantY rfl rfl rfl) (x_lenSlice Try.underlying29 rfl rfl)) ?_
          refine k_rdD rfl rfl (wantY rfl rfl rfl) rfl (x_geq rfl rfl) (fun h43 => ?_) (fun h43 => ?_)
          ·
            refine k_rd rfl rfl (RS.yes rfl (wantY rfl rfl rfl) (x_move (by conv => lhs; whnf))) ?_
            refine k_rd rfl rfl (RS.yes rfl (wantY rfl rfl rfl) (x_move h5)) ?_
            refine k_rd rfl rfl (RS.yes rfl (wantY rfl rfl rfl) (x_move h6)) ?_
            refine k_rd rfl rfl (RS.yes rfl (wantY rfl rfl rfl) (x_indexAddr Try.underlying29 ty9 rfl rfl (by omega) (by omega))) ?_
            refine k_rd rfl rfl (RS.yes rfl (wantY rfl rfl rfl) (x_load Try.underlying9 rfl rfl ((H.old 0 rfl).cell hc1))) ?_
            refine k_rd rfl rfl (RS.yes rfl (wantY rfl rfl rfl) (x_move h6)) ?_
            refine k_rd rfl rfl (RS.yes rfl (wantY rfl rfl rfl) (x_move h1)) ?_
            refine k_rd rfl rfl (RS.yes rfl (wantY rfl rfl rfl) (x_lenSlice Try.underlying29 rfl rfl)) ?_
            refine k_rd rfl rfl (RS.yes rfl (wantY rfl rfl rfl) (x_sub rfl rfl (by omega) (by omega))) ?_
            refine k_st rfl rfl (wantY rfl rfl rfl) (s_callL cal25 (c25 _) ?_)
            rintro _ w ⟨rfl, e1⟩
            have H := H.ext e1
            refine ⟨⟨trivial, ⟨trivial, ⟨trivial, ⟨trivial, ⟨RS.yes rfl (wantY rfl rfl rfl) (x_load Try.underlying9 rfl rfl ((H.old 0 rfl).cell hc1)), ⟨RS.yes rfl (wantY rfl rfl rfl) (x_indexAddr Try.underlying29 ty9 rfl rfl (by omega) (by omega)), ⟨RS.yes rfl (wantY rfl rfl rfl) (x_move h6), ⟨RS.yes rfl (wantY rfl rfl rfl) (x_move h5), ⟨trivial, ⟨trivial, ⟨trivial, ⟨trivial, ⟨trivial, ⟨trivial, ⟨trivial, ⟨trivial, ⟨trivial, ⟨trivial, ⟨trivial, ⟨trivial, ⟨trivial, ⟨trivial, ⟨trivial, ⟨trivial, ⟨trivial, ⟨trivial, ⟨trivial, ⟨trivial, ⟨trivial, ⟨trivial, trivial⟩⟩⟩⟩⟩⟩⟩⟩⟩⟩⟩⟩⟩⟩⟩⟩⟩⟩⟩⟩⟩⟩⟩⟩⟩⟩⟩⟩⟩⟩, ?_⟩
            refine k_rdD rfl rfl (wantY rfl rfl rfl) rfl (x_eqlS rfl rfl) (fun h54 => ?_) (fun h54 => ?_)
            ·
              refine k_rd rfl rfl (RS.yes rfl (wantY rfl rfl rfl) (x_not rfl)) ?_
              refine k_rd rfl rfl (RS.yes rfl (wantY rfl rfl rfl) (x_pick1 rfl (by conv => lhs; whnf))) ?_
              refine k_rd rfl rfl (RS.of rfl rfl (x_pick0 rfl (by conv => lhs; whnf))) ?_
              show _
              refine WC.cond0 rfl ?_
              refine WC.skip ?_
              refine WC.region ?_
              refine l_rd rfl rfl (x_move h6) ?_
              refine l_rd rfl rfl (x_add rfl rfl (by omega) (by omega)) ?_
              refine l_rd rfl rfl (x_assign (by conv => lhs; whnf)) ?_
              refine WL.nil ?_
              refine WC.again (⟨k + 1, by omega, rfl, h5, h1, rfl, H⟩) (by show _ - _ < _ - _; rw [h6]; show ts.length + 12 - ((k : Int) + 1).toNat < ts.length + 12 - (k : Int).toNat; omega)
            ·
              exact absurd (by congr 1; omega) h54
          ·
            refine k_rd rfl rfl (RS.yes rfl (wantY rfl rfl rfl) (x_move (by conv => lhs; whnf))) ?_
            refine k_rd rfl rfl (RS.no rfl (wantN rfl rfl rfl)) ?_
            refine k_rd rfl rfl (RS.no rfl (wantN rfl rfl rfl)) ?_
            refine k_rd rfl rfl (RS.no rfl (wantN rfl rfl rfl)) ?_
            refine k_rd rfl rfl (RS.no rfl (wantN rfl rfl rfl)) ?_
            refine k_rd rfl rfl (RS.no rfl (wantN rfl rfl rfl)) ?_
            refine k_rd rfl rfl (RS.no rfl (wantN rfl rfl rfl)) ?_
            refine k_rd rfl rfl (RS.no rfl (wantN rfl rfl rfl)) ?_
            refine k_rd rfl rfl (RS.no rfl (wantN rfl rfl rfl)) ?_
            refine k_un rfl rfl (wantN rfl rfl rfl) (⟨trivial, ⟨trivial, ⟨trivial, ⟨trivial, ⟨RS.no rfl (wantN rfl rfl rfl), ⟨RS.no rfl (wantN rfl rfl rfl), ⟨RS.no rfl (wantN rfl rfl rfl), ⟨RS.no rfl (wantN rfl rfl rfl), ⟨trivial, ⟨trivial, ⟨trivial, ⟨trivial, ⟨trivial, ⟨trivial, ⟨trivial, ⟨trivial, ⟨trivial, ⟨trivial, ⟨trivial, ⟨trivial, ⟨trivial, ⟨trivial, ⟨trivial, ⟨trivial, ⟨trivial, ⟨trivial, ⟨trivial, ⟨trivial, ⟨trivial, ⟨trivial, trivial⟩⟩⟩⟩⟩⟩⟩⟩⟩⟩⟩⟩⟩⟩⟩⟩⟩⟩⟩⟩⟩⟩⟩⟩⟩⟩⟩⟩⟩⟩) ?_
            refine k_rd rfl rfl (RS.no rfl (wantN rfl rfl rfl)) ?_
            refine k_rd rfl rfl (RS.no rfl (wantN rfl rfl rfl)) ?_
            refine k_rd rfl rfl (RS.yes rfl (wantY rfl rfl rfl) (x_pick0 rfl ev_c)) ?_
            refine k_rd rfl rfl (RS.of rfl rfl (x_pick0 rfl (by conv => lhs; whnf))) ?_
            show _
            refine WC.cond0 rfl ?_
            refine WC.skip ?_
            refine WC.region ?_
            refine l_rd rfl rfl (x_move h6) ?_
            refine l_rd rfl rfl (x_add rfl rfl (by omega) (by omega)) ?_
            refine l_rd rfl rfl (x_assign (by conv => lhs; whnf)) ?_
            refine WL.nil ?_
            refine WC.again (⟨k + 1, by omega, rfl, h5, h1, rfl, H⟩) (by show _ - _ < _ - _; rw [h6]; show ts.length + 12 - ((k : Int) + 1).toNat < ts.length + 12 - (k : Int).toNat; omega)
        ·
          exact absurd rfl h36
      ·
        obtain ⟨b1, o1, rfl, hc1⟩ := hO.el (show (ts ++ marksK 12)[k]? = some (markT 1 ((k - ts.length : Nat) : Int)) by rw [List.getElem?_append_right (by omega)]; exact marksK_at (by omega))
        refine k_rd rfl rfl (RS.of rfl rfl (x_move (by conv => lhs; whnf))) ?_
        refine k_rd rfl rfl (RS.no rfl (wantN rfl rfl rfl)) ?_
        refine k_rd rfl rfl (RS.no rfl (wantN rfl rfl rfl)) ?_
        refine k_rd rfl rfl (RS.no rfl (wantN rfl rfl rfl)) ?_
        refine k_rd rfl rfl (RS.no rfl (wantN rfl rfl rfl)) ?_
        refine k_rd rfl rfl (RS.no rfl (wantN rfl rfl rfl)) ?_
        refine k_rd rfl rfl (RS.no rfl (wantN rfl rfl rfl)) ?_
        refine k_rd rfl rfl (RS.no rfl (wantN rfl rfl rfl)) ?_
        refine k_rd rfl rfl (RS.no rfl (wantN rfl rfl rfl)) ?_
        refine k_rd rfl rfl (RS.no rfl (wantN rfl rfl rfl)) ?_
        refine k_rd rfl rfl (RS.no rfl (wantN rfl rfl rfl)) ?_
        refine k_rd rfl rfl (RS.of rfl rfl (x_pick0 rfl ev_c)) ?_
        refine k_rd rfl rfl (RS.of rfl rfl (x_move (by conv => lhs; whnf))) ?_
        refine k_rd rfl rfl (RS.yes rfl (wantY rfl rfl rfl) (x_move h6)) ?_
        refine k_rd rfl rfl (RS.yes rfl (wantY rfl rfl rfl) (x_move h1)) ?_
        refine k_rd rfl rfl (RS.yes rfl (wantY rfl rfl rfl) (x_lenSlice Try.underlying29 rfl rfl)) ?_
        refine k_rdD rfl rfl (wantY rfl rfl rfl) rfl (x_geq rfl rfl) (fun h43 => ?_) (fun h43 => ?_)
        ·
          refine k_rd rfl rfl (RS.yes rfl (wantY rfl rfl rfl) (x_move (by conv => lhs; whnf))) ?_
          refine k_rd rfl rfl (RS.yes rfl (wantY rfl rfl rfl) (x_move h5)) ?_
          refine k_rd rfl rfl (RS.yes rfl (wantY rfl rfl rfl) (x_move h6)) ?_
          refine k_rd rfl rfl (RS.yes rfl (wantY rfl rfl rfl) (x_indexAddr Try.underlying29 ty9 rfl rfl (by omega) (by omega))) ?_
          refine k_rd rfl rfl (RS.yes rfl (wantY rfl rfl rfl) (x_load Try.underlying9 rfl rfl ((H.old 0 rfl).cell hc1))) ?_
          refine k_rd rfl rfl (RS.yes rfl (wantY rfl rfl rfl) (x_move h6)) ?_
          refine k_rd rfl rfl (RS.yes rfl (wantY rfl rfl rfl) (x_move h1)) ?_
          refine k_rd rfl rfl (RS.yes rfl (wantY rfl rfl rfl) (x_lenSlice Try.underlying29 rfl rfl)) ?_
          refine k_rd rfl rfl (RS.yes rfl (wantY rfl rfl rfl) (x_sub rfl rfl (by omega) (by omega))) ?_
          refine k_st rfl rfl (wantY rfl rfl rfl) (s_callL cal25 (c25 _) ?_)
          rintro _ w ⟨rfl, e1⟩
          have H := H.ext e1
          refine ⟨⟨trivial, ⟨trivial, ⟨trivial, ⟨trivial, ⟨RS.yes rfl (wantY rfl rfl rfl) (x_load Try.underlying9 rfl rfl ((H.old 0 rfl).cell hc1)), ⟨RS.yes rfl (wantY rfl rfl rfl) (x_indexAddr Try.underlying29 ty9 rfl rfl (by omega) (by omega)), ⟨RS.yes rfl (wantY rfl rfl rfl) (x_move h6), ⟨RS.yes rfl (wantY rfl rfl rfl) (x_move h5), ⟨trivial, ⟨trivial, ⟨trivial, ⟨trivial, ⟨trivial, ⟨trivial, ⟨trivial, ⟨trivial, ⟨trivial, ⟨trivial, ⟨trivial, ⟨trivial, ⟨trivial, ⟨trivial, ⟨trivial, ⟨trivial, ⟨trivial, ⟨trivial, ⟨trivial, ⟨trivial, ⟨trivial, ⟨trivial, trivial⟩⟩⟩⟩⟩⟩⟩⟩⟩⟩⟩⟩⟩⟩⟩⟩⟩⟩⟩⟩⟩⟩⟩⟩⟩⟩⟩⟩⟩⟩, ?_⟩
          refine k_rdD rfl rfl (wantY rfl rfl rfl) rfl (x_eqlS rfl rfl) (fun h54 => ?_) (fun h54 => ?_)
          ·
            refine k_rd rfl rfl (RS.yes rfl (wantY rfl rfl rfl) (x_not rfl)) ?_
            refine k_rd rfl rfl (RS.yes rfl (wantY rfl rfl rfl) (x_pick1 rfl (by conv => lhs; whnf))) ?_
            refine k_rd rfl rfl (RS.of rfl rfl (x_pick0 rfl (by conv => lhs; whnf))) ?_
            show _
            refine WC.cond0 rfl ?_
            refine WC.skip ?_
            refine WC.region ?_
            refine l_rd rfl rfl (x_move h6) ?_
            refine l_rd rfl rfl (x_add rfl rfl (by omega) (by omega)) ?_
            refine l_rd rfl rfl (x_assign (by conv => lhs; whnf)) ?_
            refine WL.nil ?_
            refine WC.again (⟨k + 1, by omega, rfl, h5, h1, rfl, H⟩) (by show _ - _ < _ - _; rw [h6]; show ts.length + 12 - ((k : Int) + 1).toNat < ts.length + 12 - (k : Int).toNat; omega)
          ·
            exact absurd (by congr 1; omega) h54
        ·
          refine k_rd rfl rfl (RS.yes rfl (wantY rfl rfl rfl) (x_move (by conv => lhs; whnf))) ?_
          refine k_rd rfl rfl (RS.no rfl (wantN rfl rfl rfl)) ?_
          refine k_rd rfl rfl (RS.no rfl (wantN rfl rfl rfl)) ?_
          refine k_rd rfl rfl (RS.no rfl (wantN rfl rfl rfl)) ?_
          refine k_rd rfl rfl (RS.no rfl (wantN rfl rfl rfl)) ?_
          refine k_rd rfl rfl (RS.no rfl (wantN rfl rfl rfl)) ?_
          refine k_rd rfl rfl (RS.no rfl (wantN rfl rfl rfl)) ?_
          refine k_rd rfl rfl (RS.no rfl (wantN rfl rfl rfl)) ?_
          refine k_rd rfl rfl (RS.no rfl (wantN rfl rfl rfl)) ?_
          refine k_un rfl rfl (wantN rfl rfl rfl) (⟨trivial, ⟨trivial, ⟨trivial, ⟨trivial, ⟨RS.no rfl (wantN rfl rfl rfl), ⟨RS.no rfl (wantN rfl rfl rfl), ⟨RS.no rfl (wantN rfl rfl rfl), ⟨RS.no rfl (wantN rfl rfl rfl), ⟨trivial, ⟨trivial, ⟨trivial, ⟨trivial, ⟨trivial, ⟨trivial, ⟨trivial, ⟨trivial, ⟨trivial, ⟨trivial, ⟨trivial, ⟨trivial, ⟨trivial, ⟨trivial, ⟨trivial, ⟨trivial, ⟨trivial, ⟨trivial, ⟨trivial, ⟨trivial, ⟨trivial, ⟨trivial, trivial⟩⟩⟩⟩⟩⟩⟩⟩⟩⟩⟩⟩⟩⟩⟩⟩⟩⟩⟩⟩⟩⟩⟩⟩⟩⟩⟩⟩⟩⟩) ?_
          refine k_rd rfl rfl (RS.no rfl (wantN rfl rfl rfl)) ?_
          refine k_rd rfl rfl (RS.no rfl (wantN rfl rfl rfl)) ?_
          refine k_rd rfl rfl (RS.yes rfl (wantY rfl rfl rfl) (x_pick0 rfl ev_c)) ?_
          refine k_rd rfl rfl (RS.of rfl rfl (x_pick0 rfl (by conv => lhs; whnf))) ?_
          show _
          refine WC.cond0 rfl ?_
          refine WC.skip ?_
          refine WC.region ?_
          refine l_rd rfl rfl (x_move h6) ?_
          refine l_rd rfl rfl (x_add rfl rfl (by omega) (by omega)) ?_
          refine l_rd rfl rfl (x_assign (by conv => lhs; whnf)) ?_
          refine WL.nil ?_
          refine WC.again (⟨k + 1, by omega, rfl, h5, h1, rfl, H⟩) (by show _ - _ < _ - _; rw [h6]; show ts.length + 12 - ((k : Int) + 1).toNat < ts.length + 12 - (k : Int).toNat; omega)
    ·
      refine WL.nil ?_
      refine WC.cond0 rfl ?_
      refine WC.exit ?_
      refine WC.seq ?_
      refine WC.region ?_
      refine l_rd rfl rfl (x_assign ev_c) ?_
      refine WL.nil ?_
      refine WC.ret ?_
      refine atRet ?_
      exact RetM.one rfl (by (conv => lhs; whnf); try rfl) (⟨rfl, H.below 0 rfl⟩)

end Go.Proofs.Ytpoahelomhjnaaa
