/-
  What functions of this seat do: contracts, proved by walks; each with the conditions that it names.
-/
import Derived.Test.YtpoahelomhjnaaaNa
set_option linter.unusedVariables false
set_option linter.unusedSimpArgs false
namespace Go.Proofs.Ytpoahelomhjnaaa
open Go Go.RowKit KE Go.Proofs
theorem cal5 : Cal Try.prog 5 := ⟨_, Try.func5, rfl, by decide⟩
theorem cal6 : Cal Try.prog 6 := ⟨_, Try.func6, rfl, by decide⟩
theorem cal8 : Cal Try.prog 8 := ⟨_, Try.func8, rfl, by decide⟩
theorem cal9 : Cal Try.prog 9 := ⟨_, Try.func9, rfl, by decide⟩
theorem cal11 : Cal Try.prog 11 := ⟨_, Try.func11, rfl, by decide⟩
theorem cal12 : Cal Try.prog 12 := ⟨_, Try.func12, rfl, by decide⟩
theorem cal15 : Cal Try.prog 15 := ⟨_, Try.func15, rfl, by decide⟩
theorem cal18 : Cal Try.prog 18 := ⟨_, Try.func18, rfl, by decide⟩
theorem cal19 : Cal Try.prog 19 := ⟨_, Try.func19, rfl, by decide⟩
theorem cal20 : Cal Try.prog 20 := ⟨_, Try.func20, rfl, by decide⟩
theorem cal21 : Cal Try.prog 21 := ⟨_, Try.func21, rfl, by decide⟩
theorem cal22 : Cal Try.prog 22 := ⟨_, Try.func22, rfl, by decide⟩

theorem pre_rd {w : World} {a : Option Addr} {n c : Nat} {ts r : List ByteArray} (hn : ts.length ≤ n) (h : RdC w (.slice a n c) 1 n ((ts ++ r).map S)) : RdL w (.slice a ts.length c) S ts := by
  have := RdC.take (v := .bool true) h hn
  simp only [Nat.mul_one, List.map_append] at this
  rw [List.take_left' (by simp)] at this
  exact this
theorem nums_rd {w : World} {v : Value} {us ts : List ByteArray} (h : RdC w v 1 ts.length (ts.map fun t => I (fIdx us t))) : RdL w v (.int .i64) (ts.map (fIdx us)) := by
  unfold RdL; rw [List.length_map, List.map_map]; exact h
theorem mk_rd {w : World} {a : Option Addr} {c : Nat} {ts : List ByteArray} (h : RdC w (.slice a (ts.length + 12) c) 1 (ts.length + 12) ((ts ++ marksK 12).map S)) : RdL w (.slice a (ts.length + 12) c) S (ts ++ marksK 12) := by
  unfold RdL; rw [List.length_append, marksK_len]; exact h
theorem take_flat {ll : List (List ByteArray)} {k : Nat} {ts : List ByteArray} (h : ll[k]? = some ts) : ll.take (k + 1) = ll.take k ++ [ts] := by
  obtain ⟨hk, e⟩ := List.getElem?_eq_some_iff.1 h
  rw [List.take_succ_eq_append_getElem hk, e]
theorem U_succ {ll : List (List ByteArray)} {k : Nat} {ts : List ByteArray} (h : ll[k]? = some ts) : addL [] (ll.take (k + 1)).flatten = addL (addL [] (ll.take k).flatten) ts := by
  rw [take_flat h, List.flatten_append, addL_app]; simp
theorem U_len (ll : List (List ByteArray)) (k : Nat) : (addL [] (ll.take k).flatten).length ≤ ((ll.take k).map List.length).sum := by
  have := addL_len [] (ll.take k).flatten
  rw [List.length_flatten] at this
  simpa using this
theorem U_sum (ll : List (List ByteArray)) (k : Nat) : ((ll.take k).map List.length).sum ≤ (ll.map List.length).sum := by
  conv => rhs; rw [← List.take_append_drop k ll, List.map_append, List.sum_append]
  omega
theorem U_sum_at {ll : List (List ByteArray)} {k : Nat} {ts : List ByteArray} (h : ll[k]? = some ts) : ((ll.take k).map List.length).sum + ts.length ≤ (ll.map List.length).sum := by
  have := U_sum ll (k + 1)
  rw [take_flat h, List.map_append, List.sum_append] at this
  simpa using this
theorem c3 {v : Value} {ll : List (List ByteArray)} {x : ByteArray} {n : Int} (w : World) (hL : LL w v ll) : CC Try.prog 3 [v, S x, I n].toArray w (fun r w' => r = .bool true ∧ Ext w w') := by
  obtain ⟨w0, e0⟩ : ∃ w0, w0 = w := ⟨w, rfl⟩
  subst e0
  have H := Hd.start w0
  obtain ⟨a, c, rfl⟩ := hL.shape
  have hle := hL.le
  refine CC.of (N := 141) Try.func3 rfl rfl rfl ?_
  refine WC.seq ?_
  refine WC.region ?_
  refine l_rd rfl rfl (x_assign ev_c) ?_
  refine WL.nil ?_
  refine WC.seq ?_
  refine WC.seq ?_
  refine WC.region ?_
  refine l_rd rfl rfl (x_move (by conv => lhs; whnf)) ?_
  refine l_st rfl (s_callL cal5 (c5 _ (hL.old (H.old 0 rfl))) ?_)
  rintro _ w ⟨⟨m, rfl, hm⟩, e1⟩
  have H := H.ext e1
  refine l_rdD rfl rfl (x_gtr rfl rfl) (fun h25 => ?_) (fun h25 => ?_)
  ·
    refine WL.nil ?_
    refine WC.cond1 rfl ?_
    refine WC.seq ?_
    refine WC.region ?_
    refine l_st rfl (s_callL cal6 (c6 _) ?_)
    rintro r w ⟨hr1, e1⟩
    have H := H.ext e1
    obtain rfl : r = .bool true := hr1.trans (rfl)
    refine l_rd rfl rfl (x_assign (by conv => lhs; whnf)) ?_
    refine WL.nil ?_
    refine WC.ret ?_
    refine atRet ?_
    exact RetM.one (v := .bool true) rfl rfl ⟨rfl, H.below 0 rfl⟩
  ·
    refine WL.nil ?_
    refine WC.cond0 rfl ?_
    refine WC.skip ?_
    refine WC.seq ?_
    have hm2 := hm (by omega)
    refine WC.region ?_
    refine l_st rfl (s_callL cal7 (c7 _ H) ?_)
    rintro _ w ⟨B, rfl, H⟩
    refine l_st rfl (s_callL cal8 (c8 _ H) ?_)
    rintro _ w ⟨R, rfl, H⟩
    refine l_rd rfl rfl (x_assign (by conv => lhs; whnf)) ?_
    refine l_rd rfl rfl (x_assign (by conv => lhs; whnf)) ?_
    refine WL.nil ?_
    refine WC.seq ?_
    refine WC.seq ?_
    refine WC.region ?_
    refine l_rd rfl rfl (x_assign ev_c) ?_
    refine WL.nil ?_
    refine WC.block ?_
    refine WC.loop (fun ρ ds w => ∃ k : Nat, k ≤ ll.length ∧ ρ 9 = I k ∧ ρ 7 = .pointer (some ⟨B, 0, none⟩) ∧ ρ 8 = .pointer (some ⟨R, 0, none⟩) ∧ ρ 0 = .slice a ll.length c ∧ ρ 1 = S x ∧ ρ 2 = I n ∧ ds = [] ∧ Hd (sy w0) w (RefP R (addL [] (ll.take k).flatten) :: BookP B (addL [] (ll.take k).flatten) :: [fr w0])) (fun ρ w => ll.length - (match ρ 9 with | .int _ k => k.toNat | _ => 0)) (⟨0, Nat.zero_le _, rfl, rfl, rfl, rfl, rfl, rfl, rfl, H⟩) ?_
    repeat clear H
    rintro ρ ds w ⟨k, hk, h9, h7, h8, h0, h1, h2, rfl, H⟩
    refine WC.seq ?_
    refine WC.seq ?_
    refine WC.region ?_
    refine l_rd rfl rfl (x_move h9) ?_
    refine l_rd rfl rfl (x_move h0) ?_
    refine l_rd rfl rfl (x_lenSlice Try.underlying22 rfl rfl) ?_
    refine l_rdD rfl rfl (x_lss rfl rfl) (fun h32 => ?_) (fun h32 => ?_)
    ·
      refine WL.nil ?_
      refine WC.cond1 rfl ?_
      refine WC.skip ?_
      refine WC.seq ?_
      refine WC.block ?_
      refine WC.seq ?_
      obtain ⟨ts, hts⟩ := lt_get (show k < ll.length by omega)
      obtain ⟨b1, o1, u, rfl, hc1, hu⟩ := hL.el hts
      obtain ⟨a1, c1, rfl⟩ := hu.shape
      have hul := U_len ll k
      have hus := U_sum_at hts
      refine WC.region ?_
      refine l_rd rfl rfl (x_move h0) ?_
      refine l_rd rfl rfl (x_move h9) ?_
      refine l_rd rfl rfl (x_indexAddr Try.underlying22 ty29 rfl rfl (by omega) (by omega)) ?_
      refine l_rd rfl rfl (x_load Try.underlying29 rfl rfl ((H.old 2 rfl).cell hc1)) ?_
      refine l_st rfl (s_callL cal9 (c9 (ts := ts) _ H (fun w A h => (h.oldIn (by simp)).rdL hu) (by omega)) ?_)
      rintro _ w ⟨a2, c2, rfl, H⟩
      refine l_rd rfl rfl (x_assign (by conv => lhs; whnf)) ?_
      refine WL.nil ?_
      refine WC.seq ?_
      refine WC.region ?_
      refine l_rd rfl rfl (x_move h7) ?_
      refine l_rd rfl rfl (x_move (by conv => lhs; whnf)) ?_
      refine l_st rfl (s_callL cal10 (c10 (ts := addL [] (ll.take k).flatten) (texts := ts) _ (Hd.arrT [_, _, _] [2, 0, 1] (by decide) rfl H) (fun w A h => pre_rd (by omega) (h.sl 0 rfl)) (by omega)) ?_)
      rintro _ w ⟨ov, rfl, H⟩
      refine l_rd rfl rfl (x_move (by conv => lhs; whnf)) ?_
      refine l_rd rfl rfl (x_extract rfl rfl) ?_
      refine l_rd rfl rfl (x_extract rfl rfl) ?_
      refine l_rd rfl rfl (x_assign (by conv => lhs; whnf)) ?_
      refine l_rd rfl rfl (x_assign (by conv => lhs; whnf)) ?_
      refine WL.nil ?_
      refine WC.seq ?_
      refine WC.region ?_
      refine l_rd rfl rfl (x_move h8) ?_
      refine l_rd rfl rfl (x_move h0) ?_
      refine l_rd rfl rfl (x_move h9) ?_
      refine l_rd rfl rfl (x_indexAddr Try.underlying22 ty29 rfl rfl (by omega) (by omega)) ?_
      refine l_rd rfl rfl (x_load Try.underlying29 rfl rfl ((H.old 4 rfl).cell hc1)) ?_
      refine l_st rfl (s_callL cal11 (c11 (ts := addL [] (ll.take k).flatten) (texts := ts) _ (Hd.arrT [_, _, _, _, _] [3, 4, 0, 1, 2] (by decide) rfl H) (fun w A h => (h.old 0 rfl).rdL hu) (by omega)) ?_)
      rintro _ w ⟨oq, rfl, H⟩
      refine l_rd rfl rfl (x_move (by conv => lhs; whnf)) ?_
      refine l_rd rfl rfl (x_extract rfl rfl) ?_
      refine l_rd rfl rfl (x_extract rfl rfl) ?_
      refine l_rd rfl rfl (x_assign (by conv => lhs; whnf)) ?_
      refine l_rd rfl rfl (x_assign (by conv => lhs; whnf)) ?_
      refine WL.nil ?_
      refine WC.seq ?_
      refine WC.region ?_
      refine l_rd rfl rfl (x_move h7) ?_
      refine l_rd rfl rfl (x_move h1) ?_
      refine l_st rfl (s_callL cal12 (c12 _ (BookP.rd H 4 rfl)) ?_)
      rintro _ w ⟨rfl, e1⟩
      have H := H.ext e1
      refine l_rd rfl rfl (x_move (by conv => lhs; whnf)) ?_
      refine l_rd rfl rfl (x_extract rfl rfl) ?_
      refine l_rd rfl rfl (x_extract rfl rfl) ?_
      refine l_rd rfl rfl (x_assign (by conv => lhs; whnf)) ?_
      refine l_rd rfl rfl (x_assign (by conv => lhs; whnf)) ?_
      refine WL.nil ?_
      refine WC.seq ?_
      refine WC.region ?_
      refine l_rd rfl rfl (x_move h8) ?_
      refine l_rd rfl rfl (x_move h1) ?_
      refine l_st rfl (s_callL cal13 (c13 _ (RefP.rd H 1 rfl)) ?_)
      rintro _ w ⟨rfl, e1⟩
      have H := H.ext e1
      refine l_rd rfl rfl (x_move (by conv => lhs; whnf)) ?_
      refine l_rd rfl rfl (x_extract rfl rfl) ?_
      refine l_rd rfl rfl (x_extract rfl rfl) ?_
      refine l_rd rfl rfl (x_assign (by conv => lhs; whnf)) ?_
      refine l_rd rfl rfl (x_assign (by conv => lhs; whnf)) ?_
      refine WL.nil ?_
      refine WC.seq ?_
      refine WC.region ?_
      refine l_rd rfl rfl (x_move h7) ?_
      refine l_rd rfl rfl (x_move h2) ?_
      refine l_st rfl (s_callL cal14 (c14 _ (BookP.rd H 4 rfl)) ?_)
      rintro _ w ⟨rfl, e1⟩
      have H := H.ext e1
      refine l_rd rfl rfl (x_move (by conv => lhs; whnf)) ?_
      refine l_rd rfl rfl (x_extract rfl rfl) ?_
      refine l_rd rfl rfl (x_extract rfl rfl) ?_
      refine l_rd rfl rfl (x_assign (by conv => lhs; whnf)) ?_
      refine l_rd rfl rfl (x_assign (by conv => lhs; whnf)) ?_
      refine WL.nil ?_
      refine WC.seq ?_
      refine WC.region ?_
      refine l_rd rfl rfl (x_move h8) ?_
      refine l_rd rfl rfl (x_move h2) ?_
      refine l_st rfl (s_callL cal15 (c15 _ (RefP.rd H 1 rfl)) ?_)
      rintro _ w ⟨rfl, e1⟩
      have H := H.ext e1
      refine l_rd rfl rfl (x_move (by conv => lhs; whnf)) ?_
      refine l_rd rfl rfl (x_extract rfl rfl) ?_
      refine l_rd rfl rfl (x_extract rfl rfl) ?_
      refine l_rd rfl rfl (x_assign (by conv => lhs; whnf)) ?_
      refine l_rd rfl rfl (x_assign (by conv => lhs; whnf)) ?_
      refine WL.nil ?_
      refine WC.seq ?_
      refine WC.seq ?_
      obtain ⟨rv, H⟩ := RefP.opn (H.pick 1 rfl)
      obtain ⟨ar, cr, rfl⟩ := (H.sl 1 rfl).shape
      have hcx := (H.cap 6 rfl).1
      refine WC.draw mixed [6, 31, 45] [[], [], [0, 1], [0, 1, 2], [0, 1, 2, 3], [0, 1, 2, 3], [0, 1, 2, 3, 4, 5], [0, 1, 2, 3, 4, 5, 6], [0, 1, 2, 3, 4, 5, 6, 7], [0, 1, 2, 3, 4, 5, 6, 7, 8], [0, 1, 2, 3, 4, 5, 6, 7, 8, 9], [0, 1, 2, 3, 4, 5, 6, 7, 8, 9], [0, 1, 2, 3, 4, 5, 6, 7, 8, 9, 10, 11], [0, 1, 2, 3, 4, 5, 6, 7, 8, 9, 10, 11, 12], [0, 1, 2, 3, 4, 5, 6, 7, 8, 9, 10, 11, 12, 13], [0, 1, 2, 3, 4, 5, 6, 7, 8, 9, 10, 11, 12, 13, 14], [0, 1, 2, 3, 4, 5, 6, 7, 8, 9, 10, 11, 12, 13, 14], [0, 1, 2, 3, 4, 5, 6, 7, 8, 9, 10, 11, 12, 13, 14, 15, 16], [0, 1, 2, 3, 4, 5, 6, 7, 8, 9, 10, 11, 12, 13, 14, 15, 16, 17], [0, 1, 2, 3, 4, 5, 6, 7, 8, 9, 10, 11, 12, 13, 14, 15, 16, 17, 18], [0, 1, 2, 3, 4, 5, 6, 7, 8, 9, 10, 11, 12, 13, 14, 15, 16, 17, 18, 19], [0, 1, 2, 3, 4, 5, 6, 7, 8, 9, 10, 11, 12, 13, 14, 15, 16, 17, 18, 19], [0, 1, 2, 3, 4, 5, 6, 7, 8, 9, 10, 11, 12, 13, 14, 15, 16, 17, 18, 19, 20, 21], [0, 1, 2, 3, 4, 5, 6, 7, 8, 9, 10, 11, 12, 13, 14, 15, 16, 17, 18, 19, 20, 21, 22], [0, 1, 2, 3, 4, 5, 6, 7, 8, 9, 10, 11, 12, 13, 14, 15, 16, 17, 18, 19, 20, 21, 22, 23], [0, 1, 2, 3, 4, 5, 6, 7, 8, 9, 10, 11, 12, 13, 14, 15, 16, 17, 18, 19, 20, 21, 22, 23, 24], [0, 1, 2, 3, 4, 5, 6, 7, 8, 9, 10, 11, 12, 13, 14, 15, 16, 17, 18, 19, 20, 21, 22, 23, 24], [0, 1, 2, 3, 4, 5, 6, 7, 8, 9, 10, 11, 12, 13, 14, 15, 16, 17, 18, 19, 20, 21, 22, 23, 24, 25, 26], [0, 1, 2, 3, 4, 5, 6, 7, 8, 9, 10, 11, 12, 13, 14, 15, 16, 17, 18, 19, 20, 21, 22, 23, 24, 25, 26, 27], [0, 1, 2, 3, 4, 5, 6, 7, 8, 9, 10, 11, 12, 13, 14, 15, 16, 17, 18, 19, 20, 21, 22, 23, 24, 25, 26, 27, 28], [0, 1, 2, 3, 4, 5, 6, 7, 8, 9, 10, 11, 12, 13, 14, 15, 16, 17, 18, 19, 20, 21, 22, 23, 24, 25, 26, 27, 28, 29], [0, 1, 2, 3, 4, 5, 6, 7, 8, 9, 10, 11, 12, 13, 14, 15, 16, 17, 18, 19, 20, 21, 22, 23, 24, 25, 26, 27, 28, 29, 30], [0, 1, 2, 3, 4, 5, 6, 7, 8, 9, 10, 11, 12, 13, 14, 15, 16, 17, 18, 19, 20, 21, 22, 23, 24, 25, 26, 27, 28, 29], [0, 1, 2, 3, 4, 5, 6, 7, 8, 9, 10, 11, 12, 13, 14, 15, 16, 17, 18, 19, 20, 21, 22, 23, 24, 25, 26, 27, 28, 29, 32], [0, 1, 2, 3, 4, 5, 6, 7, 8, 9, 10, 11, 12, 13, 14, 15, 16, 17, 18, 19, 20, 21, 22, 23, 24, 25, 26, 27, 28, 29, 32, 33], [0, 1, 2, 3, 4, 5, 6, 7, 8, 9, 10, 11, 12, 13, 14, 15, 16, 17, 18, 19, 20, 21, 22, 23, 24, 25, 26, 27, 28, 29, 32, 33, 34], [0, 1, 2, 3, 4, 5, 6, 7, 8, 9, 10, 11, 12, 13, 14, 15, 16, 17, 18, 19, 20, 21, 22, 23, 24, 25, 26, 27, 28, 29, 32, 33, 34, 35], [0, 1, 2, 3, 4, 5, 6, 7, 8, 9, 10, 11, 12, 13, 14, 15, 16, 17, 18, 19, 20, 21, 22, 23, 24, 25, 26, 27, 28, 29, 30, 31, 32, 33, 34, 35, 36], [0, 1, 2, 3, 4, 5, 6, 7, 8, 9, 10, 11, 12, 13, 14, 15, 16, 17, 18, 19, 20, 21, 22, 23, 24, 25, 26, 27, 28, 29, 30, 31, 32, 33, 34, 35, 36, 37], [0, 1, 2, 3, 4, 5, 6, 7, 8, 9, 10, 11, 12, 13, 14, 15, 16, 17, 18, 19, 20, 21, 22, 23, 24, 25, 26, 27, 28, 29, 30, 31, 32, 33, 34, 35, 36, 37, 38], [0, 1, 2, 3, 4, 5, 6, 7, 8, 9, 10, 11, 12, 13, 14, 15, 16, 17, 18, 19, 20, 21, 22, 23, 24, 25, 26, 27, 28, 29, 30, 31, 32, 33, 34, 35, 36, 37, 38, 39], [0, 1, 2, 3, 4, 5, 6, 7, 8, 9, 10, 11, 12, 13, 14, 15, 16, 17, 18, 19, 20, 21, 22, 23, 24, 25, 26, 27, 28, 29, 30, 31, 32, 33, 34, 35, 36, 37, 38, 39], [0, 1, 2, 3, 4, 5, 6, 7, 8, 9, 10, 11, 12, 13, 14, 15, 16, 17, 18, 19, 20, 21, 22, 23, 24, 25, 26, 27, 28, 29, 30, 31, 32, 33, 34, 35, 36, 37, 38, 39], [0, 1, 2, 3, 4, 5, 6, 7, 8, 9, 10, 11, 12, 13, 14, 15, 16, 17, 18, 19, 20, 21, 22, 23, 24, 25, 26, 27, 28, 29, 30, 31, 32, 33, 34, 35, 36, 37, 38, 39, 41, 42], [0, 1, 2, 3, 4, 5, 6, 7, 8, 9, 10, 11, 12, 13, 14, 15, 16, 17, 18, 19, 20, 21, 22, 23, 24, 25, 26, 27, 28, 29, 30, 31, 32, 33, 34, 35, 36, 37, 38, 39, 41, 42, 43], [0, 1, 2, 3, 4, 5, 6, 7, 8, 9, 10, 11, 12, 13, 14, 15, 16, 17, 18, 19, 20, 21, 22, 23, 24, 25, 26, 27, 28, 29, 30, 31, 32, 33, 34, 35, 36, 37, 38, 39, 40, 41, 42, 43, 44], [0, 1, 2, 3, 4, 5, 6, 7, 8, 9, 10, 11, 12, 13, 14, 15, 16, 17, 18, 19, 20, 21, 22, 23, 24, 25, 26, 27, 28, 29, 30, 31, 32, 33, 34, 35, 36, 37, 38, 39, 40, 41, 42, 43, 44, 45], [0, 1, 2, 3, 4, 5, 6, 7, 8, 9, 10, 11, 12, 13, 14, 15, 16, 17, 18, 19, 20, 21, 22, 23, 24, 25, 26, 27, 28, 29, 30, 31, 32, 33, 34, 35, 36, 37, 38, 39, 40, 41, 42, 43, 44, 45, 46]] [0, 1, 2, 3, 4, 5, 6, 7, 8, 9, 10, 11, 12, 13, 14, 15, 16, 17, 18, 19, 20, 21, 22, 23, 24, 25, 26, 27, 28, 29, 30, 32, 33, 34, 35, 36, 31, 37, 38, 39, 40, 41, 42, 43, 44, 45, 46, 47] (by kernel_rfl) ?_
      have H := H.drew
      refine k_rd rfl rfl (RS.of rfl rfl (x_move (by conv => lhs; whnf))) ?_
      refine k_rd rfl rfl (RS.of rfl rfl (x_move (by conv => lhs; whnf))) ?_
      refine k_rdD rfl rfl rfl rfl (x_neq rfl rfl) (fun h81 => ?_) (fun h81 => ?_)
      ·
        exact absurd rfl h81
      ·
        refine k_rd rfl rfl (RS.of rfl rfl (x_move (by conv => lhs; whnf))) ?_
        refine k_rd rfl rfl (RS.yes rfl (wantY rfl rfl rfl) (x_move (by conv => lhs; whnf))) ?_
        refine k_rd rfl rfl (RS.yes rfl (wantY rfl rfl rfl) (x_move (by conv => lhs; whnf))) ?_
        refine k_st rfl rfl (wantY rfl rfl rfl) (s_callL cal16 (c16 _ (nums_rd (H.sl 4 rfl)) (nums_rd (H.sl 2 rfl))) ?_)
        rintro r w ⟨hr1, e1⟩
        have H := H.ext e1
        obtain rfl : r = .bool true := hr1.trans (by rw [decide_eq_true rfl])
        refine ⟨⟨trivial, ⟨trivial, ⟨trivial, ⟨trivial, ⟨trivial, ⟨trivial, trivial⟩⟩⟩⟩⟩⟩, ?_⟩
        refine k_rd rfl rfl (RS.yes rfl (wantY rfl rfl rfl) (x_not rfl)) ?_
        refine k_rd rfl rfl (RS.of rfl rfl (x_pick0 rfl (by conv => lhs; whnf))) ?_
        refine k_rd rfl rfl (RS.of rfl rfl (x_move (by conv => lhs; whnf))) ?_
        refine k_rd rfl rfl (RS.yes rfl (wantY rfl rfl rfl) (x_move (by conv => lhs; whnf))) ?_
        refine k_rd rfl rfl (RS.yes rfl (wantY rfl rfl rfl) (x_move (by conv => lhs; whnf))) ?_
        refine k_rdD rfl rfl (wantY rfl rfl rfl) rfl (x_neq rfl rfl) (fun h91 => ?_) (fun h91 => ?_)
        ·
          exact absurd rfl h91
        ·
          refine k_rd rfl rfl (RS.of rfl rfl (x_pick0 rfl (by conv => lhs; whnf))) ?_
          refine k_rd rfl rfl (RS.of rfl rfl (x_move (by conv => lhs; whnf))) ?_
          refine k_rd rfl rfl (RS.yes rfl (wantY rfl rfl rfl) (x_move (by conv => lhs; whnf))) ?_
          refine k_rd rfl rfl (RS.yes rfl (wantY rfl rfl rfl) (x_move (by conv => lhs; whnf))) ?_
          refine k_rdD rfl rfl (wantY rfl rfl rfl) rfl (x_neqB Try.underlying4 rfl rfl) (fun h96 => ?_) (fun h96 => ?_)
          ·
            exact absurd rfl h96
          ·
            refine k_rd rfl rfl (RS.of rfl rfl (x_pick0 rfl (by conv => lhs; whnf))) ?_
            refine k_rd rfl rfl (RS.of rfl rfl (x_move (by conv => lhs; whnf))) ?_
            refine k_rd rfl rfl (RS.yes rfl (wantY rfl rfl rfl) (x_move (by conv => lhs; whnf))) ?_
            refine k_rd rfl rfl (RS.yes rfl (wantY rfl rfl rfl) (x_move (by conv => lhs; whnf))) ?_
            refine k_rdD rfl rfl (wantY rfl rfl rfl) rfl (x_neqS rfl rfl) (fun h101 => ?_) (fun h101 => ?_)
            ·
              exact absurd rfl h101
            ·
              refine k_rd rfl rfl (RS.of rfl rfl (x_pick0 rfl (by conv => lhs; whnf))) ?_
              refine k_rd rfl rfl (RS.of rfl rfl (x_move (by conv => lhs; whnf))) ?_
              refine k_rd rfl rfl (RS.yes rfl (wantY rfl rfl rfl) (x_move (by conv => lhs; whnf))) ?_
              refine k_rd rfl rfl (RS.yes rfl (wantY rfl rfl rfl) (x_move (by conv => lhs; whnf))) ?_
              refine k_rdD rfl rfl (wantY rfl rfl rfl) rfl (x_neqB Try.underlying4 rfl rfl) (fun h106 => ?_) (fun h106 => ?_)
              ·
                exact absurd rfl h106
              ·
                refine k_rd rfl rfl (RS.of rfl rfl (x_pick0 rfl (by conv => lhs; whnf))) ?_
                refine k_rd rfl rfl (RS.of rfl rfl (x_move (by conv => lhs; whnf))) ?_
                refine k_rd rfl rfl (RS.yes rfl (wantY rfl rfl rfl) (x_move h7)) ?_
                refine k_rd rfl rfl (RS.yes rfl (wantY rfl rfl rfl) (x_move h8)) ?_
                refine k_rd rfl rfl (RS.yes rfl (wantY rfl rfl rfl) (x_nilCheck rfl)) ?_
                refine k_rd rfl rfl (RS.yes rfl (wantY rfl rfl rfl) (x_fieldAddr Try.underlying43 rfl rfl ty29 (by decide) rfl)) ?_
                refine k_rd rfl rfl (RS.yes rfl (wantY rfl rfl rfl) (x_load Try.underlying29 rfl rfl (H.cellL 0 rfl rfl))) ?_
                refine k_rd rfl rfl (RS.yes rfl (wantY rfl rfl rfl) (x_lenSlice Try.underlying29 rfl rfl)) ?_
                refine k_st rfl rfl (wantY rfl rfl rfl) (s_callL cal17 (c17 _ (BookP.rd H 5 rfl)) ?_)
                rintro _ w ⟨rfl, e1⟩
                have H := H.ext e1
                refine ⟨⟨RS.yes rfl (wantY rfl rfl rfl) (x_lenSlice Try.underlying29 rfl rfl), ⟨RS.yes rfl (wantY rfl rfl rfl) (x_load Try.underlying29 rfl rfl (H.cellL 0 rfl rfl)), ⟨RS.yes rfl (wantY rfl rfl rfl) (x_fieldAddr Try.underlying43 rfl rfl ty29 (by decide) rfl), ⟨RS.yes rfl (wantY rfl rfl rfl) (x_nilCheck rfl), ⟨RS.yes rfl (wantY rfl rfl rfl) (x_move h8), ⟨trivial, ⟨trivial, ⟨trivial, ⟨trivial, ⟨trivial, ⟨trivial, ⟨trivial, ⟨trivial, ⟨trivial, ⟨trivial, ⟨trivial, ⟨trivial, ⟨trivial, ⟨trivial, ⟨trivial, ⟨trivial, ⟨trivial, ⟨trivial, ⟨trivial, ⟨trivial, ⟨trivial, ⟨trivial, ⟨trivial, ⟨trivial, ⟨trivial, ⟨trivial, ⟨trivial, ⟨trivial, ⟨trivial, ⟨trivial, trivial⟩⟩⟩⟩⟩⟩⟩⟩⟩⟩⟩⟩⟩⟩⟩⟩⟩⟩⟩⟩⟩⟩⟩⟩⟩⟩⟩⟩⟩⟩⟩⟩⟩⟩⟩, ?_⟩
                refine k_rdD rfl rfl (wantY rfl rfl rfl) rfl (x_neq rfl rfl) (fun h116 => ?_) (fun h116 => ?_)
                ·
                  exact absurd rfl h116
                ·
                  refine k_rd rfl rfl (RS.of rfl rfl (x_pick0 rfl (by conv => lhs; whnf))) ?_
                  refine k_rd rfl rfl (RS.of rfl rfl (x_move (by conv => lhs; whnf))) ?_
                  refine k_rd rfl rfl (RS.yes rfl (wantY rfl rfl rfl) (x_move (by conv => lhs; whnf))) ?_
                  refine k_rd rfl rfl (RS.yes rfl (wantY rfl rfl rfl) (x_move h0)) ?_
                  refine k_rd rfl rfl (RS.yes rfl (wantY rfl rfl rfl) (x_move h9)) ?_
                  refine k_rd rfl rfl (RS.yes rfl (wantY rfl rfl rfl) (x_indexAddr Try.underlying22 ty29 rfl rfl (by omega) (by omega))) ?_
                  refine k_rd rfl rfl (RS.yes rfl (wantY rfl rfl rfl) (x_load Try.underlying29 rfl rfl ((H.old 3 rfl).cell hc1))) ?_
                  refine k_st rfl rfl (wantY rfl rfl rfl) (s_callL cal18 (c18 (ts := ts) _ (mk_rd (H.sl 6 rfl)) hcx ((H.old 3 rfl).rdL hu)) ?_)
                  rintro r w ⟨hr1, e1⟩
                  have H := H.ext e1
                  obtain rfl : r = .bool true := hr1.trans (rfl)
                  refine ⟨⟨trivial, ⟨trivial, ⟨trivial, ⟨trivial, ⟨trivial, ⟨trivial, ⟨trivial, ⟨trivial, ⟨trivial, ⟨trivial, ⟨trivial, ⟨trivial, ⟨trivial, ⟨trivial, ⟨trivial, ⟨trivial, ⟨trivial, ⟨trivial, ⟨trivial, ⟨trivial, ⟨trivial, ⟨trivial, ⟨trivial, ⟨trivial, ⟨trivial, ⟨trivial, ⟨trivial, ⟨trivial, ⟨trivial, ⟨trivial, ⟨trivial, ⟨trivial, ⟨trivial, ⟨trivial, ⟨trivial, ⟨trivial, ⟨trivial, ⟨trivial, ⟨trivial, ⟨trivial, ⟨trivial, ⟨trivial, ⟨trivial, trivial⟩⟩⟩⟩⟩⟩⟩⟩⟩⟩⟩⟩⟩⟩⟩⟩⟩⟩⟩⟩⟩⟩⟩⟩⟩⟩⟩⟩⟩⟩⟩⟩⟩⟩⟩⟩⟩⟩⟩⟩⟩⟩⟩, ?_⟩
                  refine k_rd rfl rfl (RS.yes rfl (wantY rfl rfl rfl) (x_not rfl)) ?_
                  refine k_rd rfl rfl (RS.of rfl rfl (x_pick0 rfl (by conv => lhs; whnf))) ?_
                  show _
                  refine WC.cond0 rfl ?_
                  refine WC.skip ?_
                  refine WC.seq ?_
                  refine WC.region ?_
                  refine l_rd rfl rfl (x_move (by conv => lhs; whnf)) ?_
                  refine l_st rfl (s_callL cal19 (c19 (n := ts.length) (m := ts.length + 12) _ (by omega) (by omega) (Hd.arrT [_, _, _, _, _, _, _] [6, 0, 1, 2, 3, 4, 5] (by decide) rfl H)) ?_)
                  rintro _ w H
                  refine WL.nil ?_
                  obtain ⟨ae, ce, rfl⟩ := (H.sl 4 rfl).shape
                  have hce := (H.cap 4 rfl).1
                  obtain ⟨cs2, H⟩ := Hd.grow (m := min ce (ts.length + 12)) (Hd.arrT [_, _, _, _, _] [4, 0, 1, 2, 3] (by decide) rfl H) (by omega) (by omega) (by omega)
                  refine WC.region ?_
                  refine l_rd rfl rfl (x_move (by conv => lhs; whnf)) ?_
                  refine l_st rfl (s_callL cal20 (c20 (n := ts.length) (m := min ce (ts.length + 12)) _ rfl (by omega) H) ?_)
                  rintro _ w H
                  refine WL.nil ?_
                  refine WC.region ?_
                  refine l_rd rfl rfl (x_move h9) ?_
                  refine l_rd rfl rfl (x_add rfl rfl (by omega) (by omega)) ?_
                  refine l_rd rfl rfl (x_assign (by conv => lhs; whnf)) ?_
                  refine WL.nil ?_
                  refine WC.again (⟨k + 1, by omega, rfl, h7, h8, h0, h1, h2, rfl, by rw [U_succ hts]; exact RefP.mk (Hd.arrT [_, _, _, _, _] [0, 1, 4, 3] (by decide) rfl H)⟩) (by show _ - _ < _ - _; rw [h9]; show ll.length - ((k : Int) + 1).toNat < ll.length - (k : Int).toNat; omega)
    ·
      refine WL.nil ?_
      refine WC.cond0 rfl ?_
      refine WC.exit ?_
      refine WC.seq ?_
      obtain ⟨rv, H⟩ := RefP.opn H
      obtain ⟨ar, cr, rfl⟩ := (H.sl 1 rfl).shape
      have hk2 : k = ll.length := by omega
      have hul := U_len ll k
      have hus := U_sum ll k
      refine WC.draw mixed [1, 6, 8] [[], [0], [], [2], [2, 3], [2, 3, 4], [0, 1, 2, 3, 4, 5], [0, 1, 2, 3, 4, 5, 6], [0, 1, 2, 3, 4, 5, 6, 7], [0, 1, 2, 3, 4, 5, 6, 7, 8], [0, 1, 2, 3, 4, 5, 6, 7, 8, 9]] [0, 2, 3, 4, 5, 1, 6, 7, 8, 9, 10] (by kernel_rfl) ?_
      have H := H.drew
      refine k_rd rfl rfl (RS.of rfl rfl (x_move h7)) ?_
      refine k_rd rfl rfl (RS.of rfl rfl (x_move h8)) ?_
      refine k_rd rfl rfl (RS.of rfl rfl (x_nilCheck rfl)) ?_
      refine k_rd rfl rfl (RS.of rfl rfl (x_fieldAddr Try.underlying43 rfl rfl ty29 (by decide) rfl)) ?_
      refine k_rd rfl rfl (RS.of rfl rfl (x_load Try.underlying29 rfl rfl (H.cellL 0 rfl rfl))) ?_
      refine k_st rfl rfl rfl (s_callL cal22 (c22 (many := 400) _ (Hd.arrT [_, _, _] [2, 0, 1] (by decide) rfl H) (by omega) (by omega)) ?_)
      rintro r w H
      obtain ⟨aa, ca, rfl⟩ := (H.sl 0 rfl).shape
      refine ⟨⟨RS.of rfl rfl (x_load Try.underlying29 rfl rfl (H.cellL 2 rfl rfl)), ⟨RS.of rfl rfl (x_fieldAddr Try.underlying43 rfl rfl ty29 (by decide) rfl), ⟨RS.of rfl rfl (x_nilCheck rfl), ⟨RS.of rfl rfl (x_move h8), ⟨trivial, trivial⟩⟩⟩⟩⟩, ?_⟩
      refine k_st rfl rfl rfl (s_callL cal21 (c21 _ (H.sl 0 rfl) (H.sl 3 rfl)) ?_)
      rintro r w ⟨hr1, e1⟩
      have H := H.ext e1
      obtain rfl : r = .bool true := hr1.trans (by rw [decide_eq_true rfl])
      refine ⟨⟨trivial, ⟨trivial, ⟨trivial, ⟨trivial, ⟨trivial, trivial⟩⟩⟩⟩⟩, ?_⟩
      refine k_rd rfl rfl (RS.of rfl rfl (x_move (by conv => lhs; whnf))) ?_
      refine k_st rfl rfl (wantY rfl rfl rfl) (s_callL cal6 (c6 _) ?_)
      rintro r w ⟨hr1, e1⟩
      have H := H.ext e1
      obtain rfl : r = .bool true := hr1.trans (rfl)
      refine ⟨⟨trivial, ⟨trivial, ⟨trivial, ⟨trivial, ⟨trivial, ⟨trivial, trivial⟩⟩⟩⟩⟩⟩, ?_⟩
      refine k_rd rfl rfl (RS.of rfl rfl (x_pick1 rfl (by conv => lhs; whnf))) ?_
      refine k_rd rfl rfl (RS.of rfl rfl (x_assign (by conv => lhs; whnf))) ?_
      show _
      refine WC.ret ?_
      refine atRet ?_
      exact RetM.one (v := .bool true) rfl rfl ⟨rfl, H.below 4 rfl⟩

end Go.Proofs.Ytpoahelomhjnaaa
