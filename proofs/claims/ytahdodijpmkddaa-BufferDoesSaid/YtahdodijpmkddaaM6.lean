/-
  What functions of this seat do: contracts, proved by walks, and the plain laws that they need; each with the conditions that it names.
-/
import Derived.Test.YtahdodijpmkddaaM5
set_option linter.unusedVariables false
set_option linter.unusedSimpArgs false
namespace Go.Proofs.Ytahdodijpmkddaa
open Go Go.RowKit KE Go.Proofs
theorem cal9 : Cal Try.prog 9 := ⟨_, Try.func9, rfl, by decide⟩
theorem cal11 : Cal Try.prog 11 := ⟨_, Try.func11, rfl, by decide⟩
theorem cal20 : Cal Try.prog 20 := ⟨_, Try.func20, rfl, by decide⟩
theorem cal40 : Cal Try.prog 40 := ⟨_, Try.func40, rfl, by decide⟩
theorem cal41 : Cal Try.prog 41 := ⟨_, Try.func41, rfl, by decide⟩
theorem cal42 : Cal Try.prog 42 := ⟨_, Try.func42, rfl, by decide⟩

theorem BufP.facts {s : Sy} {w : World} {L : List Hp} {g : Sub} {B : Nat} {V : List Eg} (H : Hd s w (BufP g B V :: L)) : V.length ≤ 1000 ∧ (∀ x ∈ V, x.props.length ≤ 1000) ∧ Srtd V := by
  obtain ⟨h, M, hs, tb, hI, H⟩ := BufP.opn H
  exact ⟨hI.len, hI.pl, hI.srt⟩
def zG : Eg := ⟨⟨#[]⟩, ⟨#[]⟩, ⟨#[]⟩, 0, []⟩
theorem zE_r (w : World) : EdR w ⟨⟨#[]⟩, ⟨#[]⟩, ⟨#[]⟩, 0, .slice none 0 0⟩ zG := ⟨rfl, rfl, rfl, rfl, ⟨by simp [zG], by simp [zG]⟩, .inl ⟨rfl, none, 0, rfl⟩⟩
theorem edr_mk {w : World} {e : Ed} {x : Eg} (h : kk e = kE x) (k : RdC w e.pv 4 x.props.length (x.props.flatMap prC)) : EdR w e x := by
  obtain ⟨h1, h2, h3, h4⟩ := kk_kE h
  exact ⟨h1, h2, h3, h4, k⟩
theorem edr_own {w : World} {es : List Ed} {xs : List Eg} {i : Nat} {e : Ed} {x : Eg} (hE : EdFs es xs) (k : RdS w e.pv 4 prC x.props) (he : es[i]? = some e) (hx : xs[i]? = some x) : EdR w e x := by
  obtain ⟨h1, h2, h3, h4⟩ := hE.2 i e x he hx
  exact ⟨h1, h2, h3, h4, k⟩
theorem edl_own {s : Sy} {w : World} {L : List Hp} {v : Value} {es : List Ed} {xs : List Eg} (hE : EdFs es xs) (H : Hd s w L) (i : Nat) (hi : L[i]? = some (Sl v 33 5 xs.length (es.flatMap edC))) (j : Nat) (hj : L[j]? = some (ow es xs)) : EdL w v xs :=
  ⟨es, edl hE (H.sl i hi), hE.1, fun q e x he hx => edr_own hE (ow_rdi H j hj he hx) he hx⟩
theorem like_perm {V rs : List Eg} {x : Eg} (h : V.Perm rs) : (∃ y ∈ V, like y x) ↔ ∃ y ∈ rs, like y x := ⟨fun ⟨y, a, b⟩ => ⟨y, h.mem_iff.1 a, b⟩, fun ⟨y, a, b⟩ => ⟨y, h.mem_iff.2 a, b⟩⟩
theorem c42c {s : Sy} {L : List Hp} {g : Sub} {B : Nat} {V : List Eg} {x : Eg} {fv : Value} (w : World) (H : Hd s w (BufP g B V :: fz g :: L)) : CC Try.prog 42 [.pointer (some ⟨B, 0, none⟩), .agg (edC ⟨x.src, x.dst, x.lab, x.time, fv⟩).toArray].toArray w (fun r w' => r = .bool (decide (∃ y ∈ V, like y x)) ∧ Ext w w') := by
  obtain ⟨h, M, hs, tb, hI, H⟩ := BufP.opn H
  obtain ⟨u, es, rest, hu, hes0, -, -, -, -, -, hop, -, -, -⟩ := tb_get hI x.time
  have hsF : es.Pairwise ahd := hes0.ahds.2 (hI.srt.filter _)
  obtain ⟨mes, cl, hm, hv⟩ := Mp.obj TI H 1 rfl
  have hrd : RdS w u 5 edC es := (hop (Hd.arrT [_, _, _, _] [3, 0, 1, 2] (by decide) rfl H)).sl 0 rfl
  refine CC.mono (c42 (f := ⟨x.src, x.dst, x.lab, x.time, fv⟩) w (H.obj 0 rfl) hm hv hu hrd) fun r w' h => ⟨?_, h.2⟩
  rw [h.1, decide_eq_decide.2 ((bs_found hsF).trans (like_in rfl hes0))]
theorem c36c {s : Sy} {L : List Hp} {g : Sub} {R : Nat} {rs : List Eg} {x : Eg} {fv : Value} (w : World) (H : Hd s w (RefP g R rs :: fz g :: L)) : CC Try.prog 36 [.pointer (some ⟨R, 0, none⟩), .agg (edC ⟨x.src, x.dst, x.lab, x.time, fv⟩).toArray].toArray w (fun r w' => r = .bool (decide (∃ y ∈ rs, like y x)) ∧ Ext w w') := by
  obtain ⟨v, es, hF, hL, hlen, hpl, H⟩ := RefP.opn H
  refine CC.mono (c36 (f := ⟨x.src, x.dst, x.lab, x.time, fv⟩) w (H.obj 0 rfl) (hF.at H 1 rfl)) fun r w' h => ⟨?_, h.2⟩
  rw [h.1, decide_eq_decide.2 (like_all rfl hL)]
theorem c18 {s : Sy} {L : List Hp} {g : Sub} {B R : Nat} {V rs : List Eg} {x : Eg} {fv : Value} (w : World) (H : Hd s w (BufP g B V :: RefP g R rs :: fz g :: L)) (hVR : V.Perm rs) (hfv : ∃ a n c, fv = .slice a n c) : CC Try.prog 18 [.pointer (some ⟨B, 0, none⟩), .pointer (some ⟨R, 0, none⟩), .agg (edC ⟨x.src, x.dst, x.lab, x.time, fv⟩).toArray].toArray w (fun r w' => r = .bool true ∧ Hd s w' (BufP g B V :: RefP g R rs :: fz g :: L)) := by
  obtain ⟨hlen, hpl, hsrt⟩ := BufP.facts H
  obtain ⟨fa, fn, fc, rfl⟩ := hfv
  refine CC.of (N := 71) Try.func18 rfl rfl rfl ?_
  refine WC.seq ?_
  refine WC.region ?_
  refine l_st rfl (s_box (by conv => lhs; whnf) H fun b5 w H => ?_)
  refine l_rd rfl rfl (x_assign ev_c) ?_
  refine WL.nil ?_
  refine WC.seq ?_
  refine WC.region ?_
  refine l_rd rfl rfl (x_move (by conv => lhs; whnf)) ?_
  refine l_st rfl (s_callL cal40 (c40 _ (Hd.arrT [_, _, _, _] [1, 3, 0, 2] (by decide) rfl H)) ?_)
  rintro v13 w ⟨esl, hEl, H⟩
  obtain ⟨al, cl, rfl⟩ := (H.sl 0 rfl).shape
  refine l_rd rfl rfl (x_assign (by conv => lhs; whnf)) ?_
  refine WL.nil ?_
  refine WC.seq ?_
  refine WC.region ?_
  refine l_rd rfl rfl (x_move (by conv => lhs; whnf)) ?_
  refine l_st rfl (s_callL cal24 (c24 _ (Hd.arrT [_, _, _, _, _, _] [5, 3, 0, 1, 2, 4] (by decide) rfl H)) ?_)
  rintro v15 w ⟨es2, ys, hE2, hP2, hW2, H⟩
  have hys : ys = V := uniq hsrt hW2 (hP2.trans hVR.symm)
  rw [hys] at hE2 H
  obtain ⟨am, cm, rfl⟩ := (H.sl 0 rfl).shape
  refine l_rd rfl rfl (x_assign (by conv => lhs; whnf)) ?_
  refine WL.nil ?_
  refine WC.seq ?_
  rcases V with _ | ⟨x0, V0⟩
  ·
    refine WC.region ?_
    refine l_rd rfl rfl (x_move (by conv => lhs; whnf)) ?_
    refine l_st rfl (s_callL cal41 (c41n _ (Hd.arrT [_, _, _, _, _, _, _, _] [6, 3, 0, 1, 2, 4, 5, 7] (by decide) rfl H)) ?_)
    rintro _ w ⟨rfl, H⟩
    refine l_rd rfl rfl (x_move (by conv => lhs; whnf)) ?_
    refine l_rd rfl rfl (x_extract rfl rfl) ?_
    refine l_rd rfl rfl (x_extract rfl rfl) ?_
    refine l_st rfl (s_alloc ty33 H fun b9 w H => ?_)
    refine l_no (s_stA 0 rfl ty33 rfl (by conv => lhs; whnf) rfl rfl rfl H fun w H => ?_)
    refine l_rd rfl rfl (x_assign (by conv => lhs; whnf)) ?_
    refine WL.nil ?_
    refine WC.seq ?_
    by_cases hlk : ∃ y ∈ [], like y x
    ·
      refine WC.draw mixed [2, 5, 13, 16, 32, 41] [[], [], [0, 1], [0, 1, 2], [0, 1, 2, 3], [0, 1, 2, 3, 4], [0, 1, 2, 3], [0, 1, 2, 3, 6], [0, 1, 2, 3, 4, 5, 6, 7], [0, 1, 2, 3, 4, 5, 6, 7, 8], [0, 1, 2, 3, 4, 5, 6, 7, 8, 9], [0, 1, 2, 3, 4, 5, 6, 7, 8, 9, 10], [0, 1, 2, 3, 4, 5, 6, 7, 8, 9, 10], [0, 1, 2, 3, 4, 5, 6, 7, 8, 9, 10, 11, 12], [0, 1, 2, 3, 4, 5, 6, 7, 8, 9, 10], [0, 1, 2, 3, 4, 5, 6, 7, 8, 9, 10], [0, 1, 2, 3, 4, 5, 6, 7, 8, 9, 10, 11, 12, 13, 14, 15], [0, 1, 2, 3, 4, 5, 6, 7, 8, 9, 10, 11, 12, 13, 14, 15, 16], [0, 1, 2, 3, 4, 5, 6, 7, 8, 9, 10, 11, 12, 13, 14, 15, 16, 17], [0, 1, 2, 3, 4, 5, 6, 7, 8, 9, 10, 11, 12, 13, 14, 15, 16, 17, 18], [0, 1, 2, 3, 4, 5, 6, 7, 8, 9, 10, 11, 12, 13, 14, 15, 16, 17, 18, 19], [0, 1, 2, 3, 4, 5, 6, 7, 8, 9, 10, 11, 12, 13, 14, 15, 16, 17, 18, 19], [0, 1, 2, 3, 4, 5, 6, 7, 8, 9, 10, 11, 12, 13, 14, 15, 16, 17, 18, 19, 21], [0, 1, 2, 3, 4, 5, 6, 7, 8, 9, 10, 11, 12, 13, 14, 15, 16, 17, 18, 19, 21, 22], [0, 1, 2, 3, 4, 5, 6, 7, 8, 9, 10, 11, 12, 13, 14, 15, 16, 17, 18, 19, 20, 21, 22, 23], [0, 1, 2, 3, 4, 5, 6, 7, 8, 9, 10, 11, 12, 13, 14, 15, 16, 17, 18, 19, 20, 21, 22, 23, 24], [0, 1, 2, 3, 4, 5, 6, 7, 8, 9, 10, 11, 12, 13, 14, 15, 16, 17, 18, 19, 20, 21, 22, 23, 24, 25], [0, 1, 2, 3, 4, 5, 6, 7, 8, 9, 10, 11, 12, 13, 14, 15, 16, 17, 18, 19, 20, 21, 22, 23, 24, 25, 26], [0, 1, 2, 3, 4, 5, 6, 7, 8, 9, 10, 11, 12, 13, 14, 15, 16, 17, 18, 19, 20, 21, 22, 23, 24, 25, 26, 27], [0, 1, 2, 3, 4, 5, 6, 7, 8, 9, 10, 11, 12, 13, 14, 15, 16, 17, 18, 19, 20, 21, 22, 23, 24, 25, 26, 27, 28], [0, 1, 2, 3, 4, 5, 6, 7, 8, 9, 10, 11, 12, 13, 14, 15, 16, 17, 18, 19, 20, 21, 22, 23, 24, 25, 26, 27, 28, 29], [0, 1, 2, 3, 4, 5, 6, 7, 8, 9, 10, 11, 12, 13, 14, 15, 16, 17, 18, 19, 20, 21, 22, 23, 24, 25, 26, 27, 28, 29], [0, 1, 2, 3, 4, 5, 6, 7, 8, 9, 10, 11, 12, 13, 14, 15, 16, 17, 18, 19, 20, 21, 22, 23, 24, 25, 26, 27, 28, 29, 30, 31], [0, 1, 2, 3, 4, 5, 6, 7, 8, 9, 10, 11, 12, 13, 14, 15, 16, 17, 18, 19, 20, 21, 22, 23, 24, 25, 26, 27, 28, 29, 30, 31, 32], [0, 1, 2, 3, 4, 5, 6, 7, 8, 9, 10, 11, 12, 13, 14, 15, 16, 17, 18, 19, 20, 21, 22, 23, 24, 25, 26, 27, 28, 29, 30, 31, 32, 33], [0, 1, 2, 3, 4, 5, 6, 7, 8, 9, 10, 11, 12, 13, 14, 15, 16, 17, 18, 19, 20, 21, 22, 23, 24, 25, 26, 27, 28, 29, 30, 31, 32, 33, 34], [0, 1, 2, 3, 4, 5, 6, 7, 8, 9, 10, 11, 12, 13, 14, 15, 16, 17, 18, 19, 20, 21, 22, 23, 24, 25, 26, 27, 28, 29, 30, 31, 32, 33, 34, 35], [0, 1, 2, 3, 4, 5, 6, 7, 8, 9, 10, 11, 12, 13, 14, 15, 16, 17, 18, 19, 20, 21, 22, 23, 24, 25, 26, 27, 28, 29, 30, 31, 32, 33, 34, 35, 36], [0, 1, 2, 3, 4, 5, 6, 7, 8, 9, 10, 11, 12, 13, 14, 15, 16, 17, 18, 19, 20, 21, 22, 23, 24, 25, 26, 27, 28, 29, 30, 31, 32, 33, 34, 35, 36], [0, 1, 2, 3, 4, 5, 6, 7, 8, 9, 10, 11, 12, 13, 14, 15, 16, 17, 18, 19, 20, 21, 22, 23, 24, 25, 26, 27, 28, 29, 30, 31, 32, 33, 34, 35, 36, 38], [0, 1, 2, 3, 4, 5, 6, 7, 8, 9, 10, 11, 12, 13, 14, 15, 16, 17, 18, 19, 20, 21, 22, 23, 24, 25, 26, 27, 28, 29, 30, 31, 32, 33, 34, 35, 36, 38, 39], [0, 1, 2, 3, 4, 5, 6, 7, 8, 9, 10, 11, 12, 13, 14, 15, 16, 17, 18, 19, 20, 21, 22, 23, 24, 25, 26, 27, 28, 29, 30, 31, 32, 33, 34, 35, 36, 37, 38, 39, 40], [0, 1, 2, 3, 4, 5, 6, 7, 8, 9, 10, 11, 12, 13, 14, 15, 16, 17, 18, 19, 20, 21, 22, 23, 24, 25, 26, 27, 28, 29, 30, 31, 32, 33, 34, 35, 36, 37, 38, 39, 40, 41], [0, 1, 2, 3, 4, 5, 6, 7, 8, 9, 10, 11, 12, 13, 14, 15, 16, 17, 18, 19, 20, 21, 22, 23, 24, 25, 26, 27, 28, 29, 30, 31, 32, 33, 34, 35, 36, 37, 38, 39, 40, 41, 42], [0, 1, 2, 3, 4, 5, 6, 7, 8, 9, 10, 11, 12, 13, 14, 15, 16, 17, 18, 19, 20, 21, 22, 23, 24, 25, 26, 27, 28, 29, 30, 31, 32, 33, 34, 35, 36, 37, 38, 39, 40, 41, 42, 43], [0, 1, 2, 3, 4, 5, 6, 7, 8, 9, 10, 11, 12, 13, 14, 15, 16, 17, 18, 19, 20, 21, 22, 23, 24, 25, 26, 27, 28, 29, 30, 31, 32, 33, 34, 35, 36, 37, 38, 39, 40, 41, 42, 43, 44]] [0, 1, 2, 3, 4, 6, 7, 5, 8, 9, 10, 11, 12, 14, 15, 13, 16, 17, 18, 19, 20, 21, 22, 23, 24, 25, 26, 27, 28, 29, 30, 31, 32, 33, 34, 35, 36, 37, 38, 39, 40, 41, 42, 43, 44, 45] (by kernel_rfl) ?_
      have H := H.drew
      refine k_rd rfl rfl (RS.of rfl rfl (x_move (by conv => lhs; whnf))) ?_
      refine k_rd rfl rfl (RS.of rfl rfl (x_move (by conv => lhs; whnf))) ?_
      refine k_st rfl rfl rfl (s_callL cal9 (c9 _ (edl_own hEl H 6 rfl 7 rfl) (edl_own hE2 H 3 rfl 4 rfl)) ?_)
      rintro r w ⟨hr1, e1⟩
      have H := H.ext e1
      obtain rfl : r = .bool true := hr1.trans (by simp)
      refine ⟨⟨trivial, ⟨trivial, trivial⟩⟩, ?_⟩
      refine k_rd rfl rfl (RS.of rfl rfl (x_move (by conv => lhs; whnf))) ?_
      refine k_rd rfl rfl (RS.yes rfl (wantY rfl rfl rfl) (x_move (by conv => lhs; whnf))) ?_
      refine k_rd rfl rfl (RS.yes rfl (wantY rfl rfl rfl) (x_move (by conv => lhs; whnf))) ?_
      refine k_rd rfl rfl (RS.yes rfl (wantY rfl rfl rfl) (x_lenSlice Try.underlying28 rfl rfl)) ?_
      refine k_st rfl rfl (wantY rfl rfl rfl) (s_callL cal20 (c20 _ (Hd.arrT [_, _, _, _, _, _, _, _, _] [1, 2, 0, 3, 4, 5, 6, 7, 8] (by decide) rfl H)) ?_)
      rintro _ w ⟨rfl, H⟩
      refine ⟨⟨RS.yes rfl (wantY rfl rfl rfl) (x_lenSlice Try.underlying28 rfl rfl), ⟨RS.yes rfl (wantY rfl rfl rfl) (x_move (by (conv => lhs; whnf); try rfl)), ⟨trivial, ⟨trivial, ⟨trivial, ⟨trivial, trivial⟩⟩⟩⟩⟩⟩, ?_⟩
      refine k_rdD rfl rfl (wantY rfl rfl rfl) rfl (x_eql rfl rfl) (fun h29 => ?_) (fun h29 => ?_)
      ·
        refine k_rd rfl rfl (RS.of rfl rfl (x_pick1 rfl (by conv => lhs; whnf))) ?_
        refine k_rd rfl rfl (RS.of rfl rfl (x_move (by conv => lhs; whnf))) ?_
        refine k_rd rfl rfl (RS.yes rfl (wantY rfl rfl rfl) (x_move (by conv => lhs; whnf))) ?_
        refine k_rd rfl rfl (RS.yes rfl (wantY rfl rfl rfl) (x_loadF (vs := [_, _, _, _, _]) Try.underlying33 rfl ty33 rfl rfl (H.cellsL 8 rfl rfl))) ?_
        refine k_rd rfl rfl (RS.yes rfl (wantY rfl rfl rfl) (x_move (by conv => lhs; whnf))) ?_
        refine k_rd rfl rfl (RS.yes rfl (wantY rfl rfl rfl) (x_loadF (vs := [_, _, _, _, _]) Try.underlying33 rfl ty33 rfl rfl (H.cellsL 8 rfl rfl))) ?_
        refine k_st rfl rfl (wantY rfl rfl rfl) (s_callL cal42 (c42c (x := x) (fv := .slice fa fn fc) _ (Hd.arrT [_, _, _, _, _, _, _, _, _] [0, 1, 2, 3, 4, 5, 6, 7, 8] (by decide) rfl H)) ?_)
        rintro r w ⟨hr1, e1⟩
        have H := H.ext e1
        obtain rfl : r = .bool true := hr1.trans (by rw [decide_eq_true hlk])
        refine ⟨⟨RS.yes rfl (wantY rfl rfl rfl) (x_loadF (vs := [_, _, _, _, _]) Try.underlying33 rfl ty33 rfl rfl (H.cellsL 8 rfl rfl)), ⟨RS.yes rfl (wantY rfl rfl rfl) (x_move (by (conv => lhs; whnf); try rfl)), ⟨trivial, ⟨trivial, ⟨trivial, ⟨trivial, ⟨trivial, ⟨trivial, ⟨trivial, ⟨trivial, ⟨trivial, ⟨trivial, ⟨trivial, trivial⟩⟩⟩⟩⟩⟩⟩⟩⟩⟩⟩⟩⟩, ?_⟩
        refine k_st rfl rfl (wantY rfl rfl rfl) (s_callL cal36 (c36c (x := x) (fv := .slice fa fn fc) _ (Hd.arrT [_, _, _, _, _, _, _, _, _] [5, 1, 0, 2, 3, 4, 6, 7, 8] (by decide) rfl H)) ?_)
        rintro r w ⟨hr1, e1⟩
        have H := H.ext e1
        obtain rfl : r = .bool true := hr1.trans (by rw [decide_eq_true ((like_perm hVR).1 hlk)])
        refine ⟨⟨trivial, ⟨trivial, ⟨trivial, ⟨trivial, ⟨trivial, ⟨trivial, ⟨trivial, ⟨trivial, ⟨trivial, ⟨trivial, ⟨trivial, ⟨trivial, ⟨trivial, trivial⟩⟩⟩⟩⟩⟩⟩⟩⟩⟩⟩⟩⟩, ?_⟩
        refine k_rdD rfl rfl (wantY rfl rfl rfl) rfl (x_eqlB Try.underlying4 rfl rfl) (fun h38 => ?_) (fun h38 => ?_)
        ·
          refine k_rd rfl rfl (RS.of rfl rfl (x_pick1 rfl (by conv => lhs; whnf))) ?_
          refine k_rd rfl rfl (RS.of rfl rfl (x_move (by conv => lhs; whnf))) ?_
          refine k_rd rfl rfl (RS.yes rfl (wantY rfl rfl rfl) (x_move (by conv => lhs; whnf))) ?_
          refine k_rd rfl rfl (RS.yes rfl (wantY rfl rfl rfl) (x_move (by conv => lhs; whnf))) ?_
          refine k_rd rfl rfl (RS.yes rfl (wantY rfl rfl rfl) (x_lenSlice Try.underlying28 rfl rfl)) ?_
          refine k_rdD rfl rfl (wantY rfl rfl rfl) rfl (x_gtr rfl rfl) (fun h44 => ?_) (fun h44 => ?_)
          ·
            exact absurd h44 (by decide)
          ·
            refine k_rdD rfl rfl (wantY rfl rfl rfl) rfl (x_eqlB Try.underlying4 rfl rfl) (fun h45 => ?_) (fun h45 => ?_)
            ·
              refine k_rd rfl rfl (RS.of rfl rfl (x_pick1 rfl (by conv => lhs; whnf))) ?_
              refine k_rd rfl rfl (RS.of rfl rfl (x_move (by conv => lhs; whnf))) ?_
              refine k_rd rfl rfl (RS.yes rfl (wantY rfl rfl rfl) (x_move (by conv => lhs; whnf))) ?_
              refine k_rd rfl rfl (RS.yes rfl (wantY rfl rfl rfl) (x_not rfl)) ?_
              refine k_rd rfl rfl (RS.yes rfl (wantY rfl rfl rfl) (x_move (by conv => lhs; whnf))) ?_
              refine k_rd rfl rfl (RS.yes rfl (wantY rfl rfl rfl) (x_loadF (vs := [_, _, _, _, _]) Try.underlying33 rfl ty33 rfl rfl (H.cellsL 2 rfl rfl))) ?_
              refine k_rd rfl rfl (RS.yes rfl (wantY rfl rfl rfl) (x_buildL (pl := [(0, 1), (1, 1), (2, 1), (3, 1), (4, 1)]) (cells := [S ⟨#[]⟩, S ⟨#[]⟩, S ⟨#[]⟩, I 0, .slice none 0 0]) Try.underlying33 ty33 (by kernel_rfl) rfl)) ?_
              refine k_st rfl rfl (wantY rfl rfl rfl) (s_callL cal23 (c23 (e := ⟨⟨#[]⟩, ⟨#[]⟩, ⟨#[]⟩, 0, .slice none 0 0⟩) (f := ⟨⟨#[]⟩, ⟨#[]⟩, ⟨#[]⟩, 0, .slice none 0 0⟩) (x := zG) (y := zG) _ (zE_r _) (zE_r _)) ?_)
              rintro r w ⟨hr1, e1⟩
              have H := H.ext e1
              obtain rfl : r = .bool true := hr1.trans (by simp)
              refine ⟨⟨trivial, ⟨trivial, ⟨trivial, ⟨trivial, ⟨trivial, ⟨trivial, ⟨trivial, ⟨trivial, ⟨trivial, ⟨trivial, ⟨trivial, ⟨trivial, ⟨trivial, ⟨trivial, ⟨trivial, ⟨trivial, ⟨trivial, ⟨trivial, ⟨trivial, ⟨trivial, ⟨trivial, ⟨trivial, ⟨trivial, ⟨trivial, ⟨trivial, ⟨trivial, ⟨trivial, ⟨trivial, trivial⟩⟩⟩⟩⟩⟩⟩⟩⟩⟩⟩⟩⟩⟩⟩⟩⟩⟩⟩⟩⟩⟩⟩⟩⟩⟩⟩⟩, ?_⟩
              refine k_rd rfl rfl (RS.yes rfl (wantY rfl rfl rfl) (x_pick1 rfl (by conv => lhs; whnf))) ?_
              refine k_rd rfl rfl (RS.yes rfl (wantY rfl rfl rfl) (x_move (by conv => lhs; whnf))) ?_
              refine k_rd rfl rfl (RS.no rfl (wantN rfl rfl rfl)) ?_
              refine k_rd rfl rfl (RS.no rfl (wantN rfl rfl rfl)) ?_
              refine k_rd rfl rfl (RS.no rfl (wantU rfl rfl rfl)) ?_
              refine k_rd rfl rfl (RS.no rfl (wantU rfl rfl rfl)) ?_
              refine k_rd rfl rfl (RS.no rfl (wantU rfl rfl rfl)) ?_
              refine k_rd rfl rfl (RS.no rfl (wantU rfl rfl rfl)) ?_
              refine k_un rfl rfl (wantU rfl rfl rfl) (⟨trivial, ⟨trivial, ⟨trivial, ⟨trivial, ⟨trivial, ⟨trivial, ⟨trivial, ⟨trivial, ⟨trivial, ⟨trivial, ⟨trivial, ⟨trivial, ⟨trivial, ⟨trivial, ⟨trivial, ⟨trivial, ⟨trivial, ⟨trivial, ⟨trivial, ⟨trivial, ⟨trivial, ⟨trivial, ⟨trivial, ⟨trivial, ⟨trivial, ⟨trivial, ⟨trivial, ⟨trivial, ⟨trivial, ⟨trivial, ⟨trivial, ⟨trivial, ⟨trivial, ⟨trivial, ⟨trivial, ⟨trivial, trivial⟩⟩⟩⟩⟩⟩⟩⟩⟩⟩⟩⟩⟩⟩⟩⟩⟩⟩⟩⟩⟩⟩⟩⟩⟩⟩⟩⟩⟩⟩⟩⟩⟩⟩⟩⟩) ?_
              refine k_rd rfl rfl (RS.no rfl (wantN rfl rfl rfl)) ?_
              refine k_rd rfl rfl (RS.yes rfl (wantY rfl rfl rfl) (x_pick1 rfl ev_c)) ?_
              refine k_rd rfl rfl (RS.of rfl rfl (x_pick1 rfl (by conv => lhs; whnf))) ?_
              refine k_rd rfl rfl (RS.of rfl rfl (x_assign (by conv => lhs; whnf))) ?_
              show _
              refine WC.seq ?_
              refine WC.region ?_
              refine l_rd rfl rfl (x_move (by conv => lhs; whnf)) ?_
              refine l_st rfl (s_callL cal11 (c11 _ (Hd.arrT [_, _, _, _, _, _, _, _, _] [6, 7, 0, 1, 2, 3, 4, 5, 8] (by decide) rfl H) hEl.1 rfl hlen hpl) ?_)
              rintro _ w H
              refine WL.nil ?_
              refine WC.seq ?_
              refine WC.region ?_
              refine l_rd rfl rfl (x_loadF (vs := [_, _, _, _, _]) Try.underlying33 rfl ty33 rfl rfl (H.cellsL 2 rfl rfl)) ?_
              refine l_st rfl (s_callL cal17 (c17 (e := ⟨⟨#[]⟩, ⟨#[]⟩, ⟨#[]⟩, 0, .slice none 0 0⟩) (a := none) (n := 0) (c := 0) (m := 0) _ rfl rfl (by omega) (Hd.nil H 86 4)) ?_)
              rintro _ w H
              refine WL.nil ?_
              refine WC.seq ?_
              refine WC.region ?_
              refine l_rd rfl rfl (x_move (by conv => lhs; whnf)) ?_
              refine l_rd rfl rfl (x_assign (by conv => lhs; whnf)) ?_
              refine WL.nil ?_
              refine WC.ret ?_
              refine atRet ?_
              exact RetM.one rfl (by (conv => lhs; whnf); try rfl) ⟨rfl, Hd.arrT [_, _, _, _, _, _, _] [0, 5, 1] (by decide) rfl H⟩
            ·
              exact absurd rfl h45
        ·
          exact absurd rfl h38
      ·
        exact absurd rfl h29
    ·
      refine WC.draw mixed [2, 5, 13, 16, 32, 41] [[], [], [0, 1], [0, 1, 2], [0, 1, 2, 3], [0, 1, 2, 3, 4], [0, 1, 2, 3], [0, 1, 2, 3, 6], [0, 1, 2, 3, 4, 5, 6, 7], [0, 1, 2, 3, 4, 5, 6, 7, 8], [0, 1, 2, 3, 4, 5, 6, 7, 8, 9], [0, 1, 2, 3, 4, 5, 6, 7, 8, 9, 10], [0, 1, 2, 3, 4, 5, 6, 7, 8, 9, 10], [0, 1, 2, 3, 4, 5, 6, 7, 8, 9, 10, 11, 12], [0, 1, 2, 3, 4, 5, 6, 7, 8, 9, 10], [0, 1, 2, 3, 4, 5, 6, 7, 8, 9, 10], [0, 1, 2, 3, 4, 5, 6, 7, 8, 9, 10, 11, 12, 13, 14, 15], [0, 1, 2, 3, 4, 5, 6, 7, 8, 9, 10, 11, 12, 13, 14, 15, 16], [0, 1, 2, 3, 4, 5, 6, 7, 8, 9, 10, 11, 12, 13, 14, 15, 16, 17], [0, 1, 2, 3, 4, 5, 6, 7, 8, 9, 10, 11, 12, 13, 14, 15, 16, 17, 18], [0, 1, 2, 3, 4, 5, 6, 7, 8, 9, 10, 11, 12, 13, 14, 15, 16, 17, 18, 19], [0, 1, 2, 3, 4, 5, 6, 7, 8, 9, 10, 11, 12, 13, 14, 15, 16, 17, 18, 19], [0, 1, 2, 3, 4, 5, 6, 7, 8, 9, 10, 11, 12, 13, 14, 15, 16, 17, 18, 19, 21], [0, 1, 2, 3, 4, 5, 6, 7, 8, 9, 10, 11, 12, 13, 14, 15, 16, 17, 18, 19, 21, 22], [0, 1, 2, 3, 4, 5, 6, 7, 8, 9, 10, 11, 12, 13, 14, 15, 16, 17, 18, 19, 20, 21, 22, 23], [0, 1, 2, 3, 4, 5, 6, 7, 8, 9, 10, 11, 12, 13, 14, 15, 16, 17, 18, 19, 20, 21, 22, 23, 24], [0, 1, 2, 3, 4, 5, 6, 7, 8, 9, 10, 11, 12, 13, 14, 15, 16, 17, 18, 19, 20, 21, 22, 23, 24, 25], [0, 1, 2, 3, 4, 5, 6, 7, 8, 9, 10, 11, 12, 13, 14, 15, 16, 17, 18, 19, 20, 21, 22, 23, 24, 25, 26], [0, 1, 2, 3, 4, 5, 6, 7, 8, 9, 10, 11, 12, 13, 14, 15, 16, 17, 18, 19, 20, 21, 22, 23, 24, 25, 26, 27], [0, 1, 2, 3, 4, 5, 6, 7, 8, 9, 10, 11, 12, 13, 14, 15, 16, 17, 18, 19, 20, 21, 22, 23, 24, 25, 26, 27, 28], [0, 1, 2, 3, 4, 5, 6, 7, 8, 9, 10, 11, 12, 13, 14, 15, 16, 17, 18, 19, 20, 21, 22, 23, 24, 25, 26, 27, 28, 29], [0, 1, 2, 3, 4, 5, 6, 7, 8, 9, 10, 11, 12, 13, 14, 15, 16, 17, 18, 19, 20, 21, 22, 23, 24, 25, 26, 27, 28, 29], [0, 1, 2, 3, 4, 5, 6, 7, 8, 9, 10, 11, 12, 13, 14, 15, 16, 17, 18, 19, 20, 21, 22, 23, 24, 25, 26, 27, 28, 29, 30, 31], [0, 1, 2, 3, 4, 5, 6, 7, 8, 9, 10, 11, 12, 13, 14, 15, 16, 17, 18, 19, 20, 21, 22, 23, 24, 25, 26, 27, 28, 29, 30, 31, 32], [0, 1, 2, 3, 4, 5, 6, 7, 8, 9, 10, 11, 12, 13, 14, 15, 16, 17, 18, 19, 20, 21, 22, 23, 24, 25, 26, 27, 28, 29, 30, 31, 32, 33], [0, 1, 2, 3, 4, 5, 6, 7, 8, 9, 10, 11, 12, 13, 14, 15, 16, 17, 18, 19, 20, 21, 22, 23, 24, 25, 26, 27, 28, 29, 30, 31, 32, 33, 34], [0, 1, 2, 3, 4, 5, 6, 7, 8, 9, 10, 11, 12, 13, 14, 15, 16, 17, 18, 19, 20, 21, 22, 23, 24, 25, 26, 27, 28, 29, 30, 31, 32, 33, 34, 35], [0, 1, 2, 3, 4, 5, 6, 7, 8, 9, 10, 11, 12, 13, 14, 15, 16, 17, 18, 19, 20, 21, 22, 23, 24, 25, 26, 27, 28, 29, 30, 31, 32, 33, 34, 35, 36], [0, 1, 2, 3, 4, 5, 6, 7, 8, 9, 10, 11, 12, 13, 14, 15, 16, 17, 18, 19, 20, 21, 22, 23, 24, 25, 26, 27, 28, 29, 30, 31, 32, 33, 34, 35, 36], [0, 1, 2, 3, 4, 5, 6, 7, 8, 9, 10, 11, 12, 13, 14, 15, 16, 17, 18, 19, 20, 21, 22, 23, 24, 25, 26, 27, 28, 29, 30, 31, 32, 33, 34, 35, 36, 38], [0, 1, 2, 3, 4, 5, 6, 7, 8, 9, 10, 11, 12, 13, 14, 15, 16, 17, 18, 19, 20, 21, 22, 23, 24, 25, 26, 27, 28, 29, 30, 31, 32, 33, 34, 35, 36, 38, 39], [0, 1, 2, 3, 4, 5, 6, 7, 8, 9, 10, 11, 12, 13, 14, 15, 16, 17, 18, 19, 20, 21, 22, 23, 24, 25, 26, 27, 28, 29, 30, 31, 32, 33, 34, 35, 36, 37, 38, 39, 40], [0, 1, 2, 3, 4, 5, 6, 7, 8, 9, 10, 11, 12, 13, 14, 15, 16, 17, 18, 19, 20, 21, 22, 23, 24, 25, 26, 27, 28, 29, 30, 31, 32, 33, 34, 35, 36, 37, 38, 39, 40, 41], [0, 1, 2, 3, 4, 5, 6, 7, 8, 9, 10, 11, 12, 13, 14, 15, 16, 17, 18, 19, 20, 21, 22, 23, 24, 25, 26, 27, 28, 29, 30, 31, 32, 33, 34, 35, 36, 37, 38, 39, 40, 41, 42], [0, 1, 2, 3, 4, 5, 6, 7, 8, 9, 10, 11, 12, 13, 14, 15, 16, 17, 18, 19, 20, 21, 22, 23, 24, 25, 26, 27, 28, 29, 30, 31, 32, 33, 34, 35, 36, 37, 38, 39, 40, 41, 42, 43], [0, 1, 2, 3, 4, 5, 6, 7, 8, 9, 10, 11, 12, 13, 14, 15, 16, 17, 18, 19, 20, 21, 22, 23, 24, 25, 26, 27, 28, 29, 30, 31, 32, 33, 34, 35, 36, 37, 38, 39, 40, 41, 42, 43, 44]] [0, 1, 2, 3, 4, 6, 7, 5, 8, 9, 10, 11, 12, 14, 15, 13, 16, 17, 18, 19, 20, 21, 22, 23, 24, 25, 26, 27, 28, 29, 30, 31, 32, 33, 34, 35, 36, 37, 38, 39, 40, 41, 42, 43, 44, 45] (by kernel_rfl) ?_
      have H := H.drew
      refine k_rd rfl rfl (RS.of rfl rfl (x_move (by conv => lhs; whnf))) ?_
      refine k_rd rfl rfl (RS.of rfl rfl (x_move (by conv => lhs; whnf))) ?_
      refine k_st rfl rfl rfl (s_callL cal9 (c9 _ (edl_own hEl H 6 rfl 7 rfl) (edl_own hE2 H 3 rfl 4 rfl)) ?_)
      rintro r w ⟨hr1, e1⟩
      have H := H.ext e1
      obtain rfl : r = .bool true := hr1.trans (by simp)
      refine ⟨⟨trivial, ⟨trivial, trivial⟩⟩, ?_⟩
      refine k_rd rfl rfl (RS.of rfl rfl (x_move (by conv => lhs; whnf))) ?_
      refine k_rd rfl rfl (RS.yes rfl (wantY rfl rfl rfl) (x_move (by conv => lhs; whnf))) ?_
      refine k_rd rfl rfl (RS.yes rfl (wantY rfl rfl rfl) (x_move (by conv => lhs; whnf))) ?_
      refine k_rd rfl rfl (RS.yes rfl (wantY rfl rfl rfl) (x_lenSlice Try.underlying28 rfl rfl)) ?_
      refine k_st rfl rfl (wantY rfl rfl rfl) (s_callL cal20 (c20 _ (Hd.arrT [_, _, _, _, _, _, _, _, _] [1, 2, 0, 3, 4, 5, 6, 7, 8] (by decide) rfl H)) ?_)
      rintro _ w ⟨rfl, H⟩
      refine ⟨⟨RS.yes rfl (wantY rfl rfl rfl) (x_lenSlice Try.underlying28 rfl rfl), ⟨RS.yes rfl (wantY rfl rfl rfl) (x_move (by (conv => lhs; whnf); try rfl)), ⟨trivial, ⟨trivial, ⟨trivial, ⟨trivial, trivial⟩⟩⟩⟩⟩⟩, ?_⟩
      refine k_rdD rfl rfl (wantY rfl rfl rfl) rfl (x_eql rfl rfl) (fun h29 => ?_) (fun h29 => ?_)
      ·
        refine k_rd rfl rfl (RS.of rfl rfl (x_pick1 rfl (by conv => lhs; whnf))) ?_
        refine k_rd rfl rfl (RS.of rfl rfl (x_move (by conv => lhs; whnf))) ?_
        refine k_rd rfl rfl (RS.yes rfl (wantY rfl rfl rfl) (x_move (by conv => lhs; whnf))) ?_
        refine k_rd rfl rfl (RS.yes rfl (wantY rfl rfl rfl) (x_loadF (vs := [_, _, _, _, _]) Try.underlying33 rfl ty33 rfl rfl (H.cellsL 8 rfl rfl))) ?_
        refine k_rd rfl rfl (RS.yes rfl (wantY rfl rfl rfl) (x_move (by conv => lhs; whnf))) ?_
        refine k_rd rfl rfl (RS.yes rfl (wantY rfl rfl rfl) (x_loadF (vs := [_, _, _, _, _]) Try.underlying33 rfl ty33 rfl rfl (H.cellsL 8 rfl rfl))) ?_
        refine k_st rfl rfl (wantY rfl rfl rfl) (s_callL cal42 (c42c (x := x) (fv := .slice fa fn fc) _ (Hd.arrT [_, _, _, _, _, _, _, _, _] [0, 1, 2, 3, 4, 5, 6, 7, 8] (by decide) rfl H)) ?_)
        rintro r w ⟨hr1, e1⟩
        have H := H.ext e1
        obtain rfl : r = .bool false := hr1.trans (by rw [decide_eq_false hlk])
        refine ⟨⟨RS.yes rfl (wantY rfl rfl rfl) (x_loadF (vs := [_, _, _, _, _]) Try.underlying33 rfl ty33 rfl rfl (H.cellsL 8 rfl rfl)), ⟨RS.yes rfl (wantY rfl rfl rfl) (x_move (by (conv => lhs; whnf); try rfl)), ⟨trivial, ⟨trivial, ⟨trivial, ⟨trivial, ⟨trivial, ⟨trivial, ⟨trivial, ⟨trivial, ⟨trivial, ⟨trivial, ⟨trivial, trivial⟩⟩⟩⟩⟩⟩⟩⟩⟩⟩⟩⟩⟩, ?_⟩
        refine k_st rfl rfl (wantY rfl rfl rfl) (s_callL cal36 (c36c (x := x) (fv := .slice fa fn fc) _ (Hd.arrT [_, _, _, _, _, _, _, _, _] [5, 1, 0, 2, 3, 4, 6, 7, 8] (by decide) rfl H)) ?_)
        rintro r w ⟨hr1, e1⟩
        have H := H.ext e1
        obtain rfl : r = .bool false := hr1.trans (by rw [decide_eq_false (fun h => hlk ((like_perm hVR).2 h))])
        refine ⟨⟨trivial, ⟨trivial, ⟨trivial, ⟨trivial, ⟨trivial, ⟨trivial, ⟨trivial, ⟨trivial, ⟨trivial, ⟨trivial, ⟨trivial, ⟨trivial, ⟨trivial, trivial⟩⟩⟩⟩⟩⟩⟩⟩⟩⟩⟩⟩⟩, ?_⟩
        refine k_rdD rfl rfl (wantY rfl rfl rfl) rfl (x_eqlB Try.underlying4 rfl rfl) (fun h38 => ?_) (fun h38 => ?_)
        ·
          refine k_rd rfl rfl (RS.of rfl rfl (x_pick1 rfl (by conv => lhs; whnf))) ?_
          refine k_rd rfl rfl (RS.of rfl rfl (x_move (by conv => lhs; whnf))) ?_
          refine k_rd rfl rfl (RS.yes rfl (wantY rfl rfl rfl) (x_move (by conv => lhs; whnf))) ?_
          refine k_rd rfl rfl (RS.yes rfl (wantY rfl rfl rfl) (x_move (by conv => lhs; whnf))) ?_
          refine k_rd rfl rfl (RS.yes rfl (wantY rfl rfl rfl) (x_lenSlice Try.underlying28 rfl rfl)) ?_
          refine k_rdD rfl rfl (wantY rfl rfl rfl) rfl (x_gtr rfl rfl) (fun h44 => ?_) (fun h44 => ?_)
          ·
            exact absurd h44 (by decide)
          ·
            refine k_rdD rfl rfl (wantY rfl rfl rfl) rfl (x_eqlB Try.underlying4 rfl rfl) (fun h45 => ?_) (fun h45 => ?_)
            ·
              refine k_rd rfl rfl (RS.of rfl rfl (x_pick1 rfl (by conv => lhs; whnf))) ?_
              refine k_rd rfl rfl (RS.of rfl rfl (x_move (by conv => lhs; whnf))) ?_
              refine k_rd rfl rfl (RS.yes rfl (wantY rfl rfl rfl) (x_move (by conv => lhs; whnf))) ?_
              refine k_rd rfl rfl (RS.yes rfl (wantY rfl rfl rfl) (x_not rfl)) ?_
              refine k_rd rfl rfl (RS.yes rfl (wantY rfl rfl rfl) (x_move (by conv => lhs; whnf))) ?_
              refine k_rd rfl rfl (RS.yes rfl (wantY rfl rfl rfl) (x_loadF (vs := [_, _, _, _, _]) Try.underlying33 rfl ty33 rfl rfl (H.cellsL 2 rfl rfl))) ?_
              refine k_rd rfl rfl (RS.yes rfl (wantY rfl rfl rfl) (x_buildL (pl := [(0, 1), (1, 1), (2, 1), (3, 1), (4, 1)]) (cells := [S ⟨#[]⟩, S ⟨#[]⟩, S ⟨#[]⟩, I 0, .slice none 0 0]) Try.underlying33 ty33 (by kernel_rfl) rfl)) ?_
              refine k_st rfl rfl (wantY rfl rfl rfl) (s_callL cal23 (c23 (e := ⟨⟨#[]⟩, ⟨#[]⟩, ⟨#[]⟩, 0, .slice none 0 0⟩) (f := ⟨⟨#[]⟩, ⟨#[]⟩, ⟨#[]⟩, 0, .slice none 0 0⟩) (x := zG) (y := zG) _ (zE_r _) (zE_r _)) ?_)
              rintro r w ⟨hr1, e1⟩
              have H := H.ext e1
              obtain rfl : r = .bool true := hr1.trans (by simp)
              refine ⟨⟨trivial, ⟨trivial, ⟨trivial, ⟨trivial, ⟨trivial, ⟨trivial, ⟨trivial, ⟨trivial, ⟨trivial, ⟨trivial, ⟨trivial, ⟨trivial, ⟨trivial, ⟨trivial, ⟨trivial, ⟨trivial, ⟨trivial, ⟨trivial, ⟨trivial, ⟨trivial, ⟨trivial, ⟨trivial, ⟨trivial, ⟨trivial, ⟨trivial, ⟨trivial, ⟨trivial, ⟨trivial, trivial⟩⟩⟩⟩⟩⟩⟩⟩⟩⟩⟩⟩⟩⟩⟩⟩⟩⟩⟩⟩⟩⟩⟩⟩⟩⟩⟩⟩, ?_⟩
              refine k_rd rfl rfl (RS.yes rfl (wantY rfl rfl rfl) (x_pick1 rfl (by conv => lhs; whnf))) ?_
              refine k_rd rfl rfl (RS.yes rfl (wantY rfl rfl rfl) (x_move (by conv => lhs; whnf))) ?_
              refine k_rd rfl rfl (RS.no rfl (wantN rfl rfl rfl)) ?_
              refine k_rd rfl rfl (RS.no rfl (wantN rfl rfl rfl)) ?_
              refine k_rd rfl rfl (RS.no rfl (wantU rfl rfl rfl)) ?_
              refine k_rd rfl rfl (RS.no rfl (wantU rfl rfl rfl)) ?_
              refine k_rd rfl rfl (RS.no rfl (wantU rfl rfl rfl)) ?_
              refine k_rd rfl rfl (RS.no rfl (wantU rfl rfl rfl)) ?_
              refine k_un rfl rfl (wantU rfl rfl rfl) (⟨trivial, ⟨trivial, ⟨trivial, ⟨trivial, ⟨trivial, ⟨trivial, ⟨trivial, ⟨trivial, ⟨trivial, ⟨trivial, ⟨trivial, ⟨trivial, ⟨trivial, ⟨trivial, ⟨trivial, ⟨trivial, ⟨trivial, ⟨trivial, ⟨trivial, ⟨trivial, ⟨trivial, ⟨trivial, ⟨trivial, ⟨trivial, ⟨trivial, ⟨trivial, ⟨trivial, ⟨trivial, ⟨trivial, ⟨trivial, ⟨trivial, ⟨trivial, ⟨trivial, ⟨trivial, ⟨trivial, ⟨trivial, trivial⟩⟩⟩⟩⟩⟩⟩⟩⟩⟩⟩⟩⟩⟩⟩⟩⟩⟩⟩⟩⟩⟩⟩⟩⟩⟩⟩⟩⟩⟩⟩⟩⟩⟩⟩⟩) ?_
              refine k_rd rfl rfl (RS.no rfl (wantN rfl rfl rfl)) ?_
              refine k_rd rfl rfl (RS.yes rfl (wantY rfl rfl rfl) (x_pick1 rfl ev_c)) ?_
              refine k_rd rfl rfl (RS.of rfl rfl (x_pick1 rfl (by conv => lhs; whnf))) ?_
              refine k_rd rfl rfl (RS.of rfl rfl (x_assign (by conv => lhs; whnf))) ?_
              show _
              refine WC.seq ?_
              refine WC.region ?_
              refine l_rd rfl rfl (x_move (by conv => lhs; whnf)) ?_
              refine l_st rfl (s_callL cal11 (c11 _ (Hd.arrT [_, _, _, _, _, _, _, _, _] [6, 7, 0, 1, 2, 3, 4, 5, 8] (by decide) rfl H) hEl.1 rfl hlen hpl) ?_)
              rintro _ w H
              refine WL.nil ?_
              refine WC.seq ?_
              refine WC.region ?_
              refine l_rd rfl rfl (x_loadF (vs := [_, _, _, _, _]) Try.underlying33 rfl ty33 rfl rfl (H.cellsL 2 rfl rfl)) ?_
              refine l_st rfl (s_callL cal17 (c17 (e := ⟨⟨#[]⟩, ⟨#[]⟩, ⟨#[]⟩, 0, .slice none 0 0⟩) (a := none) (n := 0) (c := 0) (m := 0) _ rfl rfl (by omega) (Hd.nil H 86 4)) ?_)
              rintro _ w H
              refine WL.nil ?_
              refine WC.seq ?_
              refine WC.region ?_
              refine l_rd rfl rfl (x_move (by conv => lhs; whnf)) ?_
              refine l_rd rfl rfl (x_assign (by conv => lhs; whnf)) ?_
              refine WL.nil ?_
              refine WC.ret ?_
              refine atRet ?_
              exact RetM.one rfl (by (conv => lhs; whnf); try rfl) ⟨rfl, Hd.arrT [_, _, _, _, _, _, _] [0, 5, 1] (by decide) rfl H⟩
            ·
              exact absurd rfl h45
        ·
          exact absurd rfl h38
      ·
        exact absurd rfl h29
  ·
    refine WC.region ?_
    refine l_rd rfl rfl (x_move (by conv => lhs; whnf)) ?_
    refine l_st rfl (s_callL cal41 (c41s _ (Hd.arrT [_, _, _, _, _, _, _, _] [6, 3, 0, 1, 2, 4, 5, 7] (by decide) rfl H)) ?_)
    rintro _ w ⟨ef, rfl, hkf, H⟩
    obtain ⟨f1, f2, f3, f4, f5⟩ := ef
    obtain ⟨pa, pc, rfl⟩ : ∃ a c, f5 = .slice a x0.props.length c := (H.sl 0 rfl).shape
    refine l_rd rfl rfl (x_move (by conv => lhs; whnf)) ?_
    refine l_rd rfl rfl (x_extract rfl rfl) ?_
    refine l_rd rfl rfl (x_extract rfl rfl) ?_
    refine l_st rfl (s_alloc ty33 H fun b9 w H => ?_)
    refine l_no (s_stA 0 rfl ty33 rfl (by conv => lhs; whnf) rfl rfl rfl H fun w H => ?_)
    refine l_rd rfl rfl (x_assign (by conv => lhs; whnf)) ?_
    refine WL.nil ?_
    refine WC.seq ?_
    obtain ⟨e2, he2⟩ := lt_get (show 0 < es2.length by rw [hE2.1]; simp)
    obtain ⟨bm, om, rfl, -⟩ := (show RdS w _ 5 edC es2 from edl hE2 (H.sl 4 rfl)).el edC_len he2
    have hm1 : ((x0 :: V0).length : Int) > 0 := by simp
    have hm2 : (x0 :: V0).length = V0.length + 1 := rfl
    by_cases hlk : ∃ y ∈ (x0 :: V0), like y x
    ·
      refine WC.draw mixed [2, 5, 13, 16, 32, 41] [[], [], [0, 1], [0, 1, 2], [0, 1, 2, 3], [0, 1, 2, 3, 4], [0, 1, 2, 3], [0, 1, 2, 3, 6], [0, 1, 2, 3, 4, 5, 6, 7], [0, 1, 2, 3, 4, 5, 6, 7, 8], [0, 1, 2, 3, 4, 5, 6, 7, 8, 9], [0, 1, 2, 3, 4, 5, 6, 7, 8, 9, 10], [0, 1, 2, 3, 4, 5, 6, 7, 8, 9, 10], [0, 1, 2, 3, 4, 5, 6, 7, 8, 9, 10, 11, 12], [0, 1, 2, 3, 4, 5, 6, 7, 8, 9, 10], [0, 1, 2, 3, 4, 5, 6, 7, 8, 9, 10], [0, 1, 2, 3, 4, 5, 6, 7, 8, 9, 10, 11, 12, 13, 14, 15], [0, 1, 2, 3, 4, 5, 6, 7, 8, 9, 10, 11, 12, 13, 14, 15, 16], [0, 1, 2, 3, 4, 5, 6, 7, 8, 9, 10, 11, 12, 13, 14, 15, 16, 17], [0, 1, 2, 3, 4, 5, 6, 7, 8, 9, 10, 11, 12, 13, 14, 15, 16, 17, 18], [0, 1, 2, 3, 4, 5, 6, 7, 8, 9, 10, 11, 12, 13, 14, 15, 16, 17, 18, 19], [0, 1, 2, 3, 4, 5, 6, 7, 8, 9, 10, 11, 12, 13, 14, 15, 16, 17, 18, 19], [0, 1, 2, 3, 4, 5, 6, 7, 8, 9, 10, 11, 12, 13, 14, 15, 16, 17, 18, 19, 21], [0, 1, 2, 3, 4, 5, 6, 7, 8, 9, 10, 11, 12, 13, 14, 15, 16, 17, 18, 19, 21, 22], [0, 1, 2, 3, 4, 5, 6, 7, 8, 9, 10, 11, 12, 13, 14, 15, 16, 17, 18, 19, 20, 21, 22, 23], [0, 1, 2, 3, 4, 5, 6, 7, 8, 9, 10, 11, 12, 13, 14, 15, 16, 17, 18, 19, 20, 21, 22, 23, 24], [0, 1, 2, 3, 4, 5, 6, 7, 8, 9, 10, 11, 12, 13, 14, 15, 16, 17, 18, 19, 20, 21, 22, 23, 24, 25], [0, 1, 2, 3, 4, 5, 6, 7, 8, 9, 10, 11, 12, 13, 14, 15, 16, 17, 18, 19, 20, 21, 22, 23, 24, 25, 26], [0, 1, 2, 3, 4, 5, 6, 7, 8, 9, 10, 11, 12, 13, 14, 15, 16, 17, 18, 19, 20, 21, 22, 23, 24, 25, 26, 27], [0, 1, 2, 3, 4, 5, 6, 7, 8, 9, 10, 11, 12, 13, 14, 15, 16, 17, 18, 19, 20, 21, 22, 23, 24, 25, 26, 27, 28], [0, 1, 2, 3, 4, 5, 6, 7, 8, 9, 10, 11, 12, 13, 14, 15, 16, 17, 18, 19, 20, 21, 22, 23, 24, 25, 26, 27, 28, 29], [0, 1, 2, 3, 4, 5, 6, 7, 8, 9, 10, 11, 12, 13, 14, 15, 16, 17, 18, 19, 20, 21, 22, 23, 24, 25, 26, 27, 28, 29], [0, 1, 2, 3, 4, 5, 6, 7, 8, 9, 10, 11, 12, 13, 14, 15, 16, 17, 18, 19, 20, 21, 22, 23, 24, 25, 26, 27, 28, 29, 30, 31], [0, 1, 2, 3, 4, 5, 6, 7, 8, 9, 10, 11, 12, 13, 14, 15, 16, 17, 18, 19, 20, 21, 22, 23, 24, 25, 26, 27, 28, 29, 30, 31, 32], [0, 1, 2, 3, 4, 5, 6, 7, 8, 9, 10, 11, 12, 13, 14, 15, 16, 17, 18, 19, 20, 21, 22, 23, 24, 25, 26, 27, 28, 29, 30, 31, 32, 33], [0, 1, 2, 3, 4, 5, 6, 7, 8, 9, 10, 11, 12, 13, 14, 15, 16, 17, 18, 19, 20, 21, 22, 23, 24, 25, 26, 27, 28, 29, 30, 31, 32, 33, 34], [0, 1, 2, 3, 4, 5, 6, 7, 8, 9, 10, 11, 12, 13, 14, 15, 16, 17, 18, 19, 20, 21, 22, 23, 24, 25, 26, 27, 28, 29, 30, 31, 32, 33, 34, 35], [0, 1, 2, 3, 4, 5, 6, 7, 8, 9, 10, 11, 12, 13, 14, 15, 16, 17, 18, 19, 20, 21, 22, 23, 24, 25, 26, 27, 28, 29, 30, 31, 32, 33, 34, 35, 36], [0, 1, 2, 3, 4, 5, 6, 7, 8, 9, 10, 11, 12, 13, 14, 15, 16, 17, 18, 19, 20, 21, 22, 23, 24, 25, 26, 27, 28, 29, 30, 31, 32, 33, 34, 35, 36], [0, 1, 2, 3, 4, 5, 6, 7, 8, 9, 10, 11, 12, 13, 14, 15, 16, 17, 18, 19, 20, 21, 22, 23, 24, 25, 26, 27, 28, 29, 30, 31, 32, 33, 34, 35, 36, 38], [0, 1, 2, 3, 4, 5, 6, 7, 8, 9, 10, 11, 12, 13, 14, 15, 16, 17, 18, 19, 20, 21, 22, 23, 24, 25, 26, 27, 28, 29, 30, 31, 32, 33, 34, 35, 36, 38, 39], [0, 1, 2, 3, 4, 5, 6, 7, 8, 9, 10, 11, 12, 13, 14, 15, 16, 17, 18, 19, 20, 21, 22, 23, 24, 25, 26, 27, 28, 29, 30, 31, 32, 33, 34, 35, 36, 37, 38, 39, 40], [0, 1, 2, 3, 4, 5, 6, 7, 8, 9, 10, 11, 12, 13, 14, 15, 16, 17, 18, 19, 20, 21, 22, 23, 24, 25, 26, 27, 28, 29, 30, 31, 32, 33, 34, 35, 36, 37, 38, 39, 40, 41], [0, 1, 2, 3, 4, 5, 6, 7, 8, 9, 10, 11, 12, 13, 14, 15, 16, 17, 18, 19, 20, 21, 22, 23, 24, 25, 26, 27, 28, 29, 30, 31, 32, 33, 34, 35, 36, 37, 38, 39, 40, 41, 42], [0, 1, 2, 3, 4, 5, 6, 7, 8, 9, 10, 11, 12, 13, 14, 15, 16, 17, 18, 19, 20, 21, 22, 23, 24, 25, 26, 27, 28, 29, 30, 31, 32, 33, 34, 35, 36, 37, 38, 39, 40, 41, 42, 43], [0, 1, 2, 3, 4, 5, 6, 7, 8, 9, 10, 11, 12, 13, 14, 15, 16, 17, 18, 19, 20, 21, 22, 23, 24, 25, 26, 27, 28, 29, 30, 31, 32, 33, 34, 35, 36, 37, 38, 39, 40, 41, 42, 43, 44]] [0, 1, 2, 3, 4, 6, 7, 5, 8, 9, 10, 11, 12, 14, 15, 13, 16, 17, 18, 19, 20, 21, 22, 23, 24, 25, 26, 27, 28, 29, 30, 31, 32, 33, 34, 35, 36, 37, 38, 39, 40, 41, 42, 43, 44, 45] (by kernel_rfl) ?_
      have H := H.drew
      refine k_rd rfl rfl (RS.of rfl rfl (x_move (by conv => lhs; whnf))) ?_
      refine k_rd rfl rfl (RS.of rfl rfl (x_move (by conv => lhs; whnf))) ?_
      refine k_st rfl rfl rfl (s_callL cal9 (c9 _ (edl_own hEl H 7 rfl 8 rfl) (edl_own hE2 H 4 rfl 5 rfl)) ?_)
      rintro r w ⟨hr1, e1⟩
      have H := H.ext e1
      obtain rfl : r = .bool true := hr1.trans (by simp)
      refine ⟨⟨trivial, ⟨trivial, trivial⟩⟩, ?_⟩
      refine k_rd rfl rfl (RS.of rfl rfl (x_move (by conv => lhs; whnf))) ?_
      refine k_rd rfl rfl (RS.yes rfl (wantY rfl rfl rfl) (x_move (by conv => lhs; whnf))) ?_
      refine k_rd rfl rfl (RS.yes rfl (wantY rfl rfl rfl) (x_move (by conv => lhs; whnf))) ?_
      refine k_rd rfl rfl (RS.yes rfl (wantY rfl rfl rfl) (x_lenSlice Try.underlying28 rfl rfl)) ?_
      refine k_st rfl rfl (wantY rfl rfl rfl) (s_callL cal20 (c20 _ (Hd.arrT [_, _, _, _, _, _, _, _, _, _] [2, 3, 0, 1, 4, 5, 6, 7, 8, 9] (by decide) rfl H)) ?_)
      rintro _ w ⟨rfl, H⟩
      refine ⟨⟨RS.yes rfl (wantY rfl rfl rfl) (x_lenSlice Try.underlying28 rfl rfl), ⟨RS.yes rfl (wantY rfl rfl rfl) (x_move (by (conv => lhs; whnf); try rfl)), ⟨trivial, ⟨trivial, ⟨trivial, ⟨trivial, trivial⟩⟩⟩⟩⟩⟩, ?_⟩
      refine k_rdD rfl rfl (wantY rfl rfl rfl) rfl (x_eql rfl rfl) (fun h29 => ?_) (fun h29 => ?_)
      ·
        refine k_rd rfl rfl (RS.of rfl rfl (x_pick1 rfl (by conv => lhs; whnf))) ?_
        refine k_rd rfl rfl (RS.of rfl rfl (x_move (by conv => lhs; whnf))) ?_
        refine k_rd rfl rfl (RS.yes rfl (wantY rfl rfl rfl) (x_move (by conv => lhs; whnf))) ?_
        refine k_rd rfl rfl (RS.yes rfl (wantY rfl rfl rfl) (x_loadF (vs := [_, _, _, _, _]) Try.underlying33 rfl ty33 rfl rfl (H.cellsL 9 rfl rfl))) ?_
        refine k_rd rfl rfl (RS.yes rfl (wantY rfl rfl rfl) (x_move (by conv => lhs; whnf))) ?_
        refine k_rd rfl rfl (RS.yes rfl (wantY rfl rfl rfl) (x_loadF (vs := [_, _, _, _, _]) Try.underlying33 rfl ty33 rfl rfl (H.cellsL 9 rfl rfl))) ?_
        refine k_st rfl rfl (wantY rfl rfl rfl) (s_callL cal42 (c42c (x := x) (fv := .slice fa fn fc) _ (Hd.arrT [_, _, _, _, _, _, _, _, _, _] [0, 1, 2, 3, 4, 5, 6, 7, 8, 9] (by decide) rfl H)) ?_)
        rintro r w ⟨hr1, e1⟩
        have H := H.ext e1
        obtain rfl : r = .bool true := hr1.trans (by rw [decide_eq_true hlk])
        refine ⟨⟨RS.yes rfl (wantY rfl rfl rfl) (x_loadF (vs := [_, _, _, _, _]) Try.underlying33 rfl ty33 rfl rfl (H.cellsL 9 rfl rfl)), ⟨RS.yes rfl (wantY rfl rfl rfl) (x_move (by (conv => lhs; whnf); try rfl)), ⟨trivial, ⟨trivial, ⟨trivial, ⟨trivial, ⟨trivial, ⟨trivial, ⟨trivial, ⟨trivial, ⟨trivial, ⟨trivial, ⟨trivial, trivial⟩⟩⟩⟩⟩⟩⟩⟩⟩⟩⟩⟩⟩, ?_⟩
        refine k_st rfl rfl (wantY rfl rfl rfl) (s_callL cal36 (c36c (x := x) (fv := .slice fa fn fc) _ (Hd.arrT [_, _, _, _, _, _, _, _, _, _] [6, 1, 0, 2, 3, 4, 5, 7, 8, 9] (by decide) rfl H)) ?_)
        rintro r w ⟨hr1, e1⟩
        have H := H.ext e1
        obtain rfl : r = .bool true := hr1.trans (by rw [decide_eq_true ((like_perm hVR).1 hlk)])
        refine ⟨⟨trivial, ⟨trivial, ⟨trivial, ⟨trivial, ⟨trivial, ⟨trivial, ⟨trivial, ⟨trivial, ⟨trivial, ⟨trivial, ⟨trivial, ⟨trivial, ⟨trivial, trivial⟩⟩⟩⟩⟩⟩⟩⟩⟩⟩⟩⟩⟩, ?_⟩
        refine k_rdD rfl rfl (wantY rfl rfl rfl) rfl (x_eqlB Try.underlying4 rfl rfl) (fun h38 => ?_) (fun h38 => ?_)
        ·
          refine k_rd rfl rfl (RS.of rfl rfl (x_pick1 rfl (by conv => lhs; whnf))) ?_
          refine k_rd rfl rfl (RS.of rfl rfl (x_move (by conv => lhs; whnf))) ?_
          refine k_rd rfl rfl (RS.yes rfl (wantY rfl rfl rfl) (x_move (by conv => lhs; whnf))) ?_
          refine k_rd rfl rfl (RS.yes rfl (wantY rfl rfl rfl) (x_move (by conv => lhs; whnf))) ?_
          refine k_rd rfl rfl (RS.yes rfl (wantY rfl rfl rfl) (x_lenSlice Try.underlying28 rfl rfl)) ?_
          refine k_rdD rfl rfl (wantY rfl rfl rfl) rfl (x_gtr rfl rfl) (fun h44 => ?_) (fun h44 => ?_)
          ·
            refine k_rdD rfl rfl (wantY rfl rfl rfl) rfl (x_eqlB Try.underlying4 rfl rfl) (fun h45 => ?_) (fun h45 => ?_)
            ·
              refine k_rd rfl rfl (RS.of rfl rfl (x_pick1 rfl (by conv => lhs; whnf))) ?_
              refine k_rd rfl rfl (RS.of rfl rfl (x_move (by conv => lhs; whnf))) ?_
              refine k_rd rfl rfl (RS.yes rfl (wantY rfl rfl rfl) (x_move (by conv => lhs; whnf))) ?_
              refine k_rd rfl rfl (RS.yes rfl (wantY rfl rfl rfl) (x_not rfl)) ?_
              refine k_rd rfl rfl (RS.yes rfl (wantY rfl rfl rfl) (x_move (by conv => lhs; whnf))) ?_
              refine k_rd rfl rfl (RS.no rfl (wantN rfl rfl rfl)) ?_
              refine k_rd rfl rfl (RS.no rfl (wantN rfl rfl rfl)) ?_
              refine k_un rfl rfl (wantN rfl rfl rfl) (⟨trivial, ⟨trivial, ⟨trivial, ⟨trivial, ⟨trivial, ⟨trivial, ⟨trivial, ⟨trivial, ⟨trivial, ⟨trivial, ⟨trivial, ⟨trivial, ⟨trivial, ⟨trivial, ⟨trivial, ⟨trivial, ⟨trivial, ⟨trivial, ⟨trivial, ⟨trivial, ⟨trivial, ⟨trivial, ⟨trivial, ⟨trivial, ⟨trivial, ⟨trivial, ⟨trivial, ⟨trivial, trivial⟩⟩⟩⟩⟩⟩⟩⟩⟩⟩⟩⟩⟩⟩⟩⟩⟩⟩⟩⟩⟩⟩⟩⟩⟩⟩⟩⟩) ?_
              refine k_rd rfl rfl (RS.yes rfl (wantY rfl rfl rfl) (x_pick0 rfl ev_c)) ?_
              refine k_rd rfl rfl (RS.yes rfl (wantY rfl rfl rfl) (x_move (by conv => lhs; whnf))) ?_
              refine k_rd rfl rfl (RS.yes rfl (wantY rfl rfl rfl) (x_move (by conv => lhs; whnf))) ?_
              refine k_rd rfl rfl (RS.yes rfl (wantY rfl rfl rfl) (x_move (by conv => lhs; whnf))) ?_
              refine k_rd rfl rfl (RS.yes rfl (wantY rfl rfl rfl) (x_loadF (vs := [_, _, _, _, _]) Try.underlying33 rfl ty33 rfl rfl (H.cellsL 2 rfl rfl))) ?_
              refine k_rd rfl rfl (RS.yes rfl (wantY rfl rfl rfl) (x_move (by conv => lhs; whnf))) ?_
              refine k_rd rfl rfl (RS.yes rfl (wantY rfl rfl rfl) (x_indexAddr Try.underlying28 ty33 rfl rfl (by omega) (by omega))) ?_
              refine k_rd rfl rfl (RS.yes rfl (wantY rfl rfl rfl) (x_loadF (vs := [_, _, _, _, _]) Try.underlying33 rfl ty33 rfl rfl (sub_row 0 (RdS.at edC_len (show RdS _ _ 5 edC es2 from edl hE2 (H.sl 4 rfl)) he2) rfl))) ?_
              refine k_st rfl rfl (wantY rfl rfl rfl) (s_callL cal23 (c23 (e := ⟨f1, f2, f3, f4, .slice pa x0.props.length pc⟩) (f := e2) (x := x0) (y := x0) _ (edr_mk hkf (H.sl 3 rfl)) (edr_own hE2 (ow_rdi H 5 rfl he2 rfl) he2 rfl)) ?_)
              rintro r w ⟨hr1, e1⟩
              have H := H.ext e1
              obtain rfl : r = .bool true := hr1.trans (by simp)
              refine ⟨⟨trivial, ⟨trivial, ⟨trivial, ⟨trivial, ⟨trivial, ⟨trivial, ⟨trivial, ⟨trivial, ⟨trivial, ⟨trivial, ⟨trivial, ⟨trivial, ⟨trivial, ⟨trivial, ⟨trivial, ⟨trivial, ⟨trivial, ⟨trivial, ⟨trivial, ⟨trivial, ⟨trivial, ⟨trivial, ⟨trivial, ⟨trivial, ⟨trivial, ⟨trivial, ⟨trivial, ⟨trivial, ⟨trivial, ⟨trivial, ⟨trivial, ⟨trivial, ⟨trivial, ⟨trivial, ⟨trivial, ⟨trivial, trivial⟩⟩⟩⟩⟩⟩⟩⟩⟩⟩⟩⟩⟩⟩⟩⟩⟩⟩⟩⟩⟩⟩⟩⟩⟩⟩⟩⟩⟩⟩⟩⟩⟩⟩⟩⟩, ?_⟩
              refine k_rd rfl rfl (RS.yes rfl (wantY rfl rfl rfl) (x_pick1 rfl (by conv => lhs; whnf))) ?_
              refine k_rd rfl rfl (RS.yes rfl (wantY rfl rfl rfl) (x_pick0 rfl (by conv => lhs; whnf))) ?_
              refine k_rd rfl rfl (RS.of rfl rfl (x_pick1 rfl (by conv => lhs; whnf))) ?_
              refine k_rd rfl rfl (RS.of rfl rfl (x_assign (by conv => lhs; whnf))) ?_
              show _
              refine WC.seq ?_
              refine WC.region ?_
              refine l_rd rfl rfl (x_move (by conv => lhs; whnf)) ?_
              refine l_st rfl (s_callL cal11 (c11 _ (Hd.arrT [_, _, _, _, _, _, _, _, _, _] [7, 8, 0, 1, 2, 3, 4, 5, 6, 9] (by decide) rfl H) hEl.1 rfl hlen hpl) ?_)
              rintro _ w H
              refine WL.nil ?_
              refine WC.seq ?_
              have hcp := (Hd.cap H 3 rfl).1
              have hx0 := hpl x0 List.mem_cons_self
              obtain ⟨csg, H⟩ := Hd.grow (m := min pc (x0.props.length + 12)) (Hd.arrT [_, _, _, _, _, _, _, _] [3, 0, 1, 2, 4, 5, 6, 7] (by decide) rfl H) (by omega) (by omega) (by omega)
              refine WC.region ?_
              refine l_rd rfl rfl (x_loadF (vs := [_, _, _, _, _]) Try.underlying33 rfl ty33 rfl rfl (H.cellsL 3 rfl rfl)) ?_
              refine l_st rfl (s_callL cal17 (c17 (e := ⟨f1, f2, f3, f4, .slice pa x0.props.length pc⟩) (a := pa) (n := x0.props.length) (c := pc) _ rfl rfl hx0 H) ?_)
              rintro _ w H
              refine WL.nil ?_
              refine WC.seq ?_
              refine WC.region ?_
              refine l_rd rfl rfl (x_move (by conv => lhs; whnf)) ?_
              refine l_rd rfl rfl (x_assign (by conv => lhs; whnf)) ?_
              refine WL.nil ?_
              refine WC.ret ?_
              refine atRet ?_
              exact RetM.one rfl (by (conv => lhs; whnf); try rfl) ⟨rfl, Hd.arrT [_, _, _, _, _, _, _] [0, 5, 1] (by decide) rfl H⟩
            ·
              exact absurd rfl h45
          ·
            exact absurd hm1 h44
        ·
          exact absurd rfl h38
      ·
        exact absurd rfl h29
    ·
      refine WC.draw mixed [2, 5, 13, 16, 32, 41] [[], [], [0, 1], [0, 1, 2], [0, 1, 2, 3], [0, 1, 2, 3, 4], [0, 1, 2, 3], [0, 1, 2, 3, 6], [0, 1, 2, 3, 4, 5, 6, 7], [0, 1, 2, 3, 4, 5, 6, 7, 8], [0, 1, 2, 3, 4, 5, 6, 7, 8, 9], [0, 1, 2, 3, 4, 5, 6, 7, 8, 9, 10], [0, 1, 2, 3, 4, 5, 6, 7, 8, 9, 10], [0, 1, 2, 3, 4, 5, 6, 7, 8, 9, 10, 11, 12], [0, 1, 2, 3, 4, 5, 6, 7, 8, 9, 10], [0, 1, 2, 3, 4, 5, 6, 7, 8, 9, 10], [0, 1, 2, 3, 4, 5, 6, 7, 8, 9, 10, 11, 12, 13, 14, 15], [0, 1, 2, 3, 4, 5, 6, 7, 8, 9, 10, 11, 12, 13, 14, 15, 16], [0, 1, 2, 3, 4, 5, 6, 7, 8, 9, 10, 11, 12, 13, 14, 15, 16, 17], [0, 1, 2, 3, 4, 5, 6, 7, 8, 9, 10, 11, 12, 13, 14, 15, 16, 17, 18], [0, 1, 2, 3, 4, 5, 6, 7, 8, 9, 10, 11, 12, 13, 14, 15, 16, 17, 18, 19], [0, 1, 2, 3, 4, 5, 6, 7, 8, 9, 10, 11, 12, 13, 14, 15, 16, 17, 18, 19], [0, 1, 2, 3, 4, 5, 6, 7, 8, 9, 10, 11, 12, 13, 14, 15, 16, 17, 18, 19, 21], [0, 1, 2, 3, 4, 5, 6, 7, 8, 9, 10, 11, 12, 13, 14, 15, 16, 17, 18, 19, 21, 22], [0, 1, 2, 3, 4, 5, 6, 7, 8, 9, 10, 11, 12, 13, 14, 15, 16, 17, 18, 19, 20, 21, 22, 23], [0, 1, 2, 3, 4, 5, 6, 7, 8, 9, 10, 11, 12, 13, 14, 15, 16, 17, 18, 19, 20, 21, 22, 23, 24], [0, 1, 2, 3, 4, 5, 6, 7, 8, 9, 10, 11, 12, 13, 14, 15, 16, 17, 18, 19, 20, 21, 22, 23, 24, 25], [0, 1, 2, 3, 4, 5, 6, 7, 8, 9, 10, 11, 12, 13, 14, 15, 16, 17, 18, 19, 20, 21, 22, 23, 24, 25, 26], [0, 1, 2, 3, 4, 5, 6, 7, 8, 9, 10, 11, 12, 13, 14, 15, 16, 17, 18, 19, 20, 21, 22, 23, 24, 25, 26, 27], [0, 1, 2, 3, 4, 5, 6, 7, 8, 9, 10, 11, 12, 13, 14, 15, 16, 17, 18, 19, 20, 21, 22, 23, 24, 25, 26, 27, 28], [0, 1, 2, 3, 4, 5, 6, 7, 8, 9, 10, 11, 12, 13, 14, 15, 16, 17, 18, 19, 20, 21, 22, 23, 24, 25, 26, 27, 28, 29], [0, 1, 2, 3, 4, 5, 6, 7, 8, 9, 10, 11, 12, 13, 14, 15, 16, 17, 18, 19, 20, 21, 22, 23, 24, 25, 26, 27, 28, 29], [0, 1, 2, 3, 4, 5, 6, 7, 8, 9, 10, 11, 12, 13, 14, 15, 16, 17, 18, 19, 20, 21, 22, 23, 24, 25, 26, 27, 28, 29, 30, 31], [0, 1, 2, 3, 4, 5, 6, 7, 8, 9, 10, 11, 12, 13, 14, 15, 16, 17, 18, 19, 20, 21, 22, 23, 24, 25, 26, 27, 28, 29, 30, 31, 32], [0, 1, 2, 3, 4, 5, 6, 7, 8, 9, 10, 11, 12, 13, 14, 15, 16, 17, 18, 19, 20, 21, 22, 23, 24, 25, 26, 27, 28, 29, 30, 31, 32, 33], [0, 1, 2, 3, 4, 5, 6, 7, 8, 9, 10, 11, 12, 13, 14, 15, 16, 17, 18, 19, 20, 21, 22, 23, 24, 25, 26, 27, 28, 29, 30, 31, 32, 33, 34], [0, 1, 2, 3, 4, 5, 6, 7, 8, 9, 10, 11, 12, 13, 14, 15, 16, 17, 18, 19, 20, 21, 22, 23, 24, 25, 26, 27, 28, 29, 30, 31, 32, 33, 34, 35], [0, 1, 2, 3, 4, 5, 6, 7, 8, 9, 10, 11, 12, 13, 14, 15, 16, 17, 18, 19, 20, 21, 22, 23, 24, 25, 26, 27, 28, 29, 30, 31, 32, 33, 34, 35, 36], [0, 1, 2, 3, 4, 5, 6, 7, 8, 9, 10, 11, 12, 13, 14, 15, 16, 17, 18, 19, 20, 21, 22, 23, 24, 25, 26, 27, 28, 29, 30, 31, 32, 33, 34, 35, 36], [0, 1, 2, 3, 4, 5, 6, 7, 8, 9, 10, 11, 12, 13, 14, 15, 16, 17, 18, 19, 20, 21, 22, 23, 24, 25, 26, 27, 28, 29, 30, 31, 32, 33, 34, 35, 36, 38], [0, 1, 2, 3, 4, 5, 6, 7, 8, 9, 10, 11, 12, 13, 14, 15, 16, 17, 18, 19, 20, 21, 22, 23, 24, 25, 26, 27, 28, 29, 30, 31, 32, 33, 34, 35, 36, 38, 39], [0, 1, 2, 3, 4, 5, 6, 7, 8, 9, 10, 11, 12, 13, 14, 15, 16, 17, 18, 19, 20, 21, 22, 23, 24, 25, 26, 27, 28, 29, 30, 31, 32, 33, 34, 35, 36, 37, 38, 39, 40], [0, 1, 2, 3, 4, 5, 6, 7, 8, 9, 10, 11, 12, 13, 14, 15, 16, 17, 18, 19, 20, 21, 22, 23, 24, 25, 26, 27, 28, 29, 30, 31, 32, 33, 34, 35, 36, 37, 38, 39, 40, 41], [0, 1, 2, 3, 4, 5, 6, 7, 8, 9, 10, 11, 12, 13, 14, 15, 16, 17, 18, 19, 20, 21, 22, 23, 24, 25, 26, 27, 28, 29, 30, 31, 32, 33, 34, 35, 36, 37, 38, 39, 40, 41, 42], [0, 1, 2, 3, 4, 5, 6, 7, 8, 9, 10, 11, 12, 13, 14, 15, 16, 17, 18, 19, 20, 21, 22, 23, 24, 25, 26, 27, 28, 29, 30, 31, 32, 33, 34, 35, 36, 37, 38, 39, 40, 41, 42, 43], [0, 1, 2, 3, 4, 5, 6, 7, 8, 9, 10, 11, 12, 13, 14, 15, 16, 17, 18, 19, 20, 21, 22, 23, 24, 25, 26, 27, 28, 29, 30, 31, 32, 33, 34, 35, 36, 37, 38, 39, 40, 41, 42, 43, 44]] [0, 1, 2, 3, 4, 6, 7, 5, 8, 9, 10, 11, 12, 14, 15, 13, 16, 17, 18, 19, 20, 21, 22, 23, 24, 25, 26, 27, 28, 29, 30, 31, 32, 33, 34, 35, 36, 37, 38, 39, 40, 41, 42, 43, 44, 45] (by kernel_rfl) ?_
      have H := H.drew
      refine k_rd rfl rfl (RS.of rfl rfl (x_move (by conv => lhs; whnf))) ?_
      refine k_rd rfl rfl (RS.of rfl rfl (x_move (by conv => lhs; whnf))) ?_
      refine k_st rfl rfl rfl (s_callL cal9 (c9 _ (edl_own hEl H 7 rfl 8 rfl) (edl_own hE2 H 4 rfl 5 rfl)) ?_)
      rintro r w ⟨hr1, e1⟩
      have H := H.ext e1
      obtain rfl : r = .bool true := hr1.trans (by simp)
      refine ⟨⟨trivial, ⟨trivial, trivial⟩⟩, ?_⟩
      refine k_rd rfl rfl (RS.of rfl rfl (x_move (by conv => lhs; whnf))) ?_
      refine k_rd rfl rfl (RS.yes rfl (wantY rfl rfl rfl) (x_move (by conv => lhs; whnf))) ?_
      refine k_rd rfl rfl (RS.yes rfl (wantY rfl rfl rfl) (x_move (by conv => lhs; whnf))) ?_
      refine k_rd rfl rfl (RS.yes rfl (wantY rfl rfl rfl) (x_lenSlice Try.underlying28 rfl rfl)) ?_
      refine k_st rfl rfl (wantY rfl rfl rfl) (s_callL cal20 (c20 _ (Hd.arrT [_, _, _, _, _, _, _, _, _, _] [2, 3, 0, 1, 4, 5, 6, 7, 8, 9] (by decide) rfl H)) ?_)
      rintro _ w ⟨rfl, H⟩
      refine ⟨⟨RS.yes rfl (wantY rfl rfl rfl) (x_lenSlice Try.underlying28 rfl rfl), ⟨RS.yes rfl (wantY rfl rfl rfl) (x_move (by (conv => lhs; whnf); try rfl)), ⟨trivial, ⟨trivial, ⟨trivial, ⟨trivial, trivial⟩⟩⟩⟩⟩⟩, ?_⟩
      refine k_rdD rfl rfl (wantY rfl rfl rfl) rfl (x_eql rfl rfl) (fun h29 => ?_) (fun h29 => ?_)
      ·
        refine k_rd rfl rfl (RS.of rfl rfl (x_pick1 rfl (by conv => lhs; whnf))) ?_
        refine k_rd rfl rfl (RS.of rfl rfl (x_move (by conv => lhs; whnf))) ?_
        refine k_rd rfl rfl (RS.yes rfl (wantY rfl rfl rfl) (x_move (by conv => lhs; whnf))) ?_
        refine k_rd rfl rfl (RS.yes rfl (wantY rfl rfl rfl) (x_loadF (vs := [_, _, _, _, _]) Try.underlying33 rfl ty33 rfl rfl (H.cellsL 9 rfl rfl))) ?_
        refine k_rd rfl rfl (RS.yes rfl (wantY rfl rfl rfl) (x_move (by conv => lhs; whnf))) ?_
        refine k_rd rfl rfl (RS.yes rfl (wantY rfl rfl rfl) (x_loadF (vs := [_, _, _, _, _]) Try.underlying33 rfl ty33 rfl rfl (H.cellsL 9 rfl rfl))) ?_
        refine k_st rfl rfl (wantY rfl rfl rfl) (s_callL cal42 (c42c (x := x) (fv := .slice fa fn fc) _ (Hd.arrT [_, _, _, _, _, _, _, _, _, _] [0, 1, 2, 3, 4, 5, 6, 7, 8, 9] (by decide) rfl H)) ?_)
        rintro r w ⟨hr1, e1⟩
        have H := H.ext e1
        obtain rfl : r = .bool false := hr1.trans (by rw [decide_eq_false hlk])
        refine ⟨⟨RS.yes rfl (wantY rfl rfl rfl) (x_loadF (vs := [_, _, _, _, _]) Try.underlying33 rfl ty33 rfl rfl (H.cellsL 9 rfl rfl)), ⟨RS.yes rfl (wantY rfl rfl rfl) (x_move (by (conv => lhs; whnf); try rfl)), ⟨trivial, ⟨trivial, ⟨trivial, ⟨trivial, ⟨trivial, ⟨trivial, ⟨trivial, ⟨trivial, ⟨trivial, ⟨trivial, ⟨trivial, trivial⟩⟩⟩⟩⟩⟩⟩⟩⟩⟩⟩⟩⟩, ?_⟩
        refine k_st rfl rfl (wantY rfl rfl rfl) (s_callL cal36 (c36c (x := x) (fv := .slice fa fn fc) _ (Hd.arrT [_, _, _, _, _, _, _, _, _, _] [6, 1, 0, 2, 3, 4, 5, 7, 8, 9] (by decide) rfl H)) ?_)
        rintro r w ⟨hr1, e1⟩
        have H := H.ext e1
        obtain rfl : r = .bool false := hr1.trans (by rw [decide_eq_false (fun h => hlk ((like_perm hVR).2 h))])
        refine ⟨⟨trivial, ⟨trivial, ⟨trivial, ⟨trivial, ⟨trivial, ⟨trivial, ⟨trivial, ⟨trivial, ⟨trivial, ⟨trivial, ⟨trivial, ⟨trivial, ⟨trivial, trivial⟩⟩⟩⟩⟩⟩⟩⟩⟩⟩⟩⟩⟩, ?_⟩
        refine k_rdD rfl rfl (wantY rfl rfl rfl) rfl (x_eqlB Try.underlying4 rfl rfl) (fun h38 => ?_) (fun h38 => ?_)
        ·
          refine k_rd rfl rfl (RS.of rfl rfl (x_pick1 rfl (by conv => lhs; whnf))) ?_
          refine k_rd rfl rfl (RS.of rfl rfl (x_move (by conv => lhs; whnf))) ?_
          refine k_rd rfl rfl (RS.yes rfl (wantY rfl rfl rfl) (x_move (by conv => lhs; whnf))) ?_
          refine k_rd rfl rfl (RS.yes rfl (wantY rfl rfl rfl) (x_move (by conv => lhs; whnf))) ?_
          refine k_rd rfl rfl (RS.yes rfl (wantY rfl rfl rfl) (x_lenSlice Try.underlying28 rfl rfl)) ?_
          refine k_rdD rfl rfl (wantY rfl rfl rfl) rfl (x_gtr rfl rfl) (fun h44 => ?_) (fun h44 => ?_)
          ·
            refine k_rdD rfl rfl (wantY rfl rfl rfl) rfl (x_eqlB Try.underlying4 rfl rfl) (fun h45 => ?_) (fun h45 => ?_)
            ·
              refine k_rd rfl rfl (RS.of rfl rfl (x_pick1 rfl (by conv => lhs; whnf))) ?_
              refine k_rd rfl rfl (RS.of rfl rfl (x_move (by conv => lhs; whnf))) ?_
              refine k_rd rfl rfl (RS.yes rfl (wantY rfl rfl rfl) (x_move (by conv => lhs; whnf))) ?_
              refine k_rd rfl rfl (RS.yes rfl (wantY rfl rfl rfl) (x_not rfl)) ?_
              refine k_rd rfl rfl (RS.yes rfl (wantY rfl rfl rfl) (x_move (by conv => lhs; whnf))) ?_
              refine k_rd rfl rfl (RS.no rfl (wantN rfl rfl rfl)) ?_
              refine k_rd rfl rfl (RS.no rfl (wantN rfl rfl rfl)) ?_
              refine k_un rfl rfl (wantN rfl rfl rfl) (⟨trivial, ⟨trivial, ⟨trivial, ⟨trivial, ⟨trivial, ⟨trivial, ⟨trivial, ⟨trivial, ⟨trivial, ⟨trivial, ⟨trivial, ⟨trivial, ⟨trivial, ⟨trivial, ⟨trivial, ⟨trivial, ⟨trivial, ⟨trivial, ⟨trivial, ⟨trivial, ⟨trivial, ⟨trivial, ⟨trivial, ⟨trivial, ⟨trivial, ⟨trivial, ⟨trivial, ⟨trivial, trivial⟩⟩⟩⟩⟩⟩⟩⟩⟩⟩⟩⟩⟩⟩⟩⟩⟩⟩⟩⟩⟩⟩⟩⟩⟩⟩⟩⟩) ?_
              refine k_rd rfl rfl (RS.yes rfl (wantY rfl rfl rfl) (x_pick0 rfl ev_c)) ?_
              refine k_rd rfl rfl (RS.yes rfl (wantY rfl rfl rfl) (x_move (by conv => lhs; whnf))) ?_
              refine k_rd rfl rfl (RS.yes rfl (wantY rfl rfl rfl) (x_move (by conv => lhs; whnf))) ?_
              refine k_rd rfl rfl (RS.yes rfl (wantY rfl rfl rfl) (x_move (by conv => lhs; whnf))) ?_
              refine k_rd rfl rfl (RS.yes rfl (wantY rfl rfl rfl) (x_loadF (vs := [_, _, _, _, _]) Try.underlying33 rfl ty33 rfl rfl (H.cellsL 2 rfl rfl))) ?_
              refine k_rd rfl rfl (RS.yes rfl (wantY rfl rfl rfl) (x_move (by conv => lhs; whnf))) ?_
              refine k_rd rfl rfl (RS.yes rfl (wantY rfl rfl rfl) (x_indexAddr Try.underlying28 ty33 rfl rfl (by omega) (by omega))) ?_
              refine k_rd rfl rfl (RS.yes rfl (wantY rfl rfl rfl) (x_loadF (vs := [_, _, _, _, _]) Try.underlying33 rfl ty33 rfl rfl (sub_row 0 (RdS.at edC_len (show RdS _ _ 5 edC es2 from edl hE2 (H.sl 4 rfl)) he2) rfl))) ?_
              refine k_st rfl rfl (wantY rfl rfl rfl) (s_callL cal23 (c23 (e := ⟨f1, f2, f3, f4, .slice pa x0.props.length pc⟩) (f := e2) (x := x0) (y := x0) _ (edr_mk hkf (H.sl 3 rfl)) (edr_own hE2 (ow_rdi H 5 rfl he2 rfl) he2 rfl)) ?_)
              rintro r w ⟨hr1, e1⟩
              have H := H.ext e1
              obtain rfl : r = .bool true := hr1.trans (by simp)
              refine ⟨⟨trivial, ⟨trivial, ⟨trivial, ⟨trivial, ⟨trivial, ⟨trivial, ⟨trivial, ⟨trivial, ⟨trivial, ⟨trivial, ⟨trivial, ⟨trivial, ⟨trivial, ⟨trivial, ⟨trivial, ⟨trivial, ⟨trivial, ⟨trivial, ⟨trivial, ⟨trivial, ⟨trivial, ⟨trivial, ⟨trivial, ⟨trivial, ⟨trivial, ⟨trivial, ⟨trivial, ⟨trivial, ⟨trivial, ⟨trivial, ⟨trivial, ⟨trivial, ⟨trivial, ⟨trivial, ⟨trivial, ⟨trivial, trivial⟩⟩⟩⟩⟩⟩⟩⟩⟩⟩⟩⟩⟩⟩⟩⟩⟩⟩⟩⟩⟩⟩⟩⟩⟩⟩⟩⟩⟩⟩⟩⟩⟩⟩⟩⟩, ?_⟩
              refine k_rd rfl rfl (RS.yes rfl (wantY rfl rfl rfl) (x_pick1 rfl (by conv => lhs; whnf))) ?_
              refine k_rd rfl rfl (RS.yes rfl (wantY rfl rfl rfl) (x_pick0 rfl (by conv => lhs; whnf))) ?_
              refine k_rd rfl rfl (RS.of rfl rfl (x_pick1 rfl (by conv => lhs; whnf))) ?_
              refine k_rd rfl rfl (RS.of rfl rfl (x_assign (by conv => lhs; whnf))) ?_
              show _
              refine WC.seq ?_
              refine WC.region ?_
              refine l_rd rfl rfl (x_move (by conv => lhs; whnf)) ?_
              refine l_st rfl (s_callL cal11 (c11 _ (Hd.arrT [_, _, _, _, _, _, _, _, _, _] [7, 8, 0, 1, 2, 3, 4, 5, 6, 9] (by decide) rfl H) hEl.1 rfl hlen hpl) ?_)
              rintro _ w H
              refine WL.nil ?_
              refine WC.seq ?_
              have hcp := (Hd.cap H 3 rfl).1
              have hx0 := hpl x0 List.mem_cons_self
              obtain ⟨csg, H⟩ := Hd.grow (m := min pc (x0.props.length + 12)) (Hd.arrT [_, _, _, _, _, _, _, _] [3, 0, 1, 2, 4, 5, 6, 7] (by decide) rfl H) (by omega) (by omega) (by omega)
              refine WC.region ?_
              refine l_rd rfl rfl (x_loadF (vs := [_, _, _, _, _]) Try.underlying33 rfl ty33 rfl rfl (H.cellsL 3 rfl rfl)) ?_
              refine l_st rfl (s_callL cal17 (c17 (e := ⟨f1, f2, f3, f4, .slice pa x0.props.length pc⟩) (a := pa) (n := x0.props.length) (c := pc) _ rfl rfl hx0 H) ?_)
              rintro _ w H
              refine WL.nil ?_
              refine WC.seq ?_
              refine WC.region ?_
              refine l_rd rfl rfl (x_move (by conv => lhs; whnf)) ?_
              refine l_rd rfl rfl (x_assign (by conv => lhs; whnf)) ?_
              refine WL.nil ?_
              refine WC.ret ?_
              refine atRet ?_
              exact RetM.one rfl (by (conv => lhs; whnf); try rfl) ⟨rfl, Hd.arrT [_, _, _, _, _, _, _] [0, 5, 1] (by decide) rfl H⟩
            ·
              exact absurd rfl h45
          ·
            exact absurd hm1 h44
        ·
          exact absurd rfl h38
      ·
        exact absurd rfl h29

end Go.Proofs.Ytahdodijpmkddaa
set_option linter.unusedVariables false
set_option linter.unusedSimpArgs false
namespace Go.Proofs.Ytahdodijpmkddaa
open Go Go.RowKit KE Go.Proofs
theorem ty35 : Ty Try.prog 35 (.agg #[(.int .i64 0), (.int .i64 0), (.int .i64 0), (.string ⟨#[]⟩), (.string ⟨#[]⟩), (.string ⟨#[]⟩), (.int .i64 0), (.slice none 0 0)]) 8 104 := Ty.of (by kernel_rfl)
theorem cal6 : Cal Try.prog 6 := ⟨_, Try.func6, rfl, by decide⟩
theorem cal8 : Cal Try.prog 8 := ⟨_, Try.func8, rfl, by decide⟩
theorem cal14 : Cal Try.prog 14 := ⟨_, Try.func14, rfl, by decide⟩
theorem cal19 : Cal Try.prog 19 := ⟨_, Try.func19, rfl, by decide⟩

def aE (to : ByteArray) (t : Int) : Eg := ⟨⟨#[97]⟩, to, ⟨#[120]⟩, t, []⟩
theorem nilP (w : World) {x : List Pr} (h : x = [] := by rfl) : RdS w (.slice none 0 0) 4 prC x := by
  subst h; exact ⟨⟨rfl, by simp⟩, .inl ⟨rfl, none, 0, rfl⟩⟩
theorem vtx1 {b : UInt8} (h : sgn ((b.toNat : Nat) : Int)) : vtx ⟨#[b]⟩ := ⟨fun i hi => by
  have : i = 0 := by have : i < 1 := hi; omega
  subst this; exact h, (show 1 ≤ 1 from Nat.le_refl _), (show 1 ≤ 20 by decide)⟩
theorem fre_x : fre ⟨#[120]⟩ := ⟨vtx1 (by decide), ⟨by decide, by decide⟩, by decide⟩
theorem prs0 : prs [] := ⟨trivial, by decide⟩
theorem chk_a {to : ByteArray} {t : Int} (h : vtx to) (ht : 0 ≤ t ∧ t ≤ 1099511627776) : chk (aE to t).src (aE to t).dst (aE to t).lab (aE to t).time (aE to t).props = 0 := by
  unfold chk aE
  rw [if_pos ⟨vtx1 (by decide), h, fre_x, prs0⟩, if_pos ht]
theorem vtx_a : vtx ⟨#[97]⟩ := vtx1 (by decide)
theorem vtx_b : vtx ⟨#[98]⟩ := vtx1 (by decide)
theorem pR1 : putR [] (aE ⟨#[98]⟩ 7) = 0 := by rw [putR, if_neg (by rw [chk_a vtx_b (by decide)]; decide), if_neg (by simp)]
theorem pV1 : putV [] (aE ⟨#[98]⟩ 7) = [aE ⟨#[98]⟩ 7] := by rw [putV, if_pos ⟨chk_a vtx_b (by decide), by simp⟩]; rfl
theorem nl2 : ¬ ∃ y ∈ [aE ⟨#[98]⟩ 7], like y (aE ⟨#[98]⟩ 5) := by
  rintro ⟨y, hy, h⟩
  rw [List.mem_singleton.1 hy] at h
  exact absurd h.2.2.2 (by decide)
theorem pR2 : putR [aE ⟨#[98]⟩ 7] (aE ⟨#[98]⟩ 5) = 0 := by rw [putR, if_neg (by rw [chk_a vtx_b (by decide)]; decide), if_neg nl2]
theorem pV2 : putV [aE ⟨#[98]⟩ 7] (aE ⟨#[98]⟩ 5) = [aE ⟨#[98]⟩ 5, aE ⟨#[98]⟩ 7] := by
  rw [putV, if_pos ⟨chk_a vtx_b (by decide), nl2⟩, insV, if_neg (by decide)]
theorem nl3 : ¬ ∃ y ∈ [aE ⟨#[98]⟩ 5, aE ⟨#[98]⟩ 7], like y (aE ⟨#[97]⟩ 7) := by
  rintro ⟨y, hy, h⟩
  rcases List.mem_cons.1 hy with e | hy
  · rw [e] at h; exact absurd h.2.2.2 (by decide)
  · rw [List.mem_singleton.1 hy] at h
    exact absurd h.2.1 (by decide)
theorem pR3 : putR [aE ⟨#[98]⟩ 5, aE ⟨#[98]⟩ 7] (aE ⟨#[97]⟩ 7) = 0 := by rw [putR, if_neg (by rw [chk_a vtx_a (by decide)]; decide), if_neg nl3]
theorem nlt_ba : ¬ lt (aE ⟨#[98]⟩ 7) (aE ⟨#[97]⟩ 7) := fun h => by
  have h1 := (ahd_d (e := kE (aE ⟨#[98]⟩ 7)) (f := kE (aE ⟨#[97]⟩ 7)) rfl rfl (by decide)).1 h
  unfold sLt at h1
  rw [toList_data, toList_data] at h1
  exact absurd h1 (by decide)
theorem pV3 : putV [aE ⟨#[98]⟩ 5, aE ⟨#[98]⟩ 7] (aE ⟨#[97]⟩ 7) = [aE ⟨#[98]⟩ 5, aE ⟨#[97]⟩ 7, aE ⟨#[98]⟩ 7] := by
  rw [putV, if_pos ⟨chk_a vtx_a (by decide), nl3⟩, insV, if_pos (by decide), insV, if_neg nlt_ba]
theorem yl4 : ∃ y ∈ [aE ⟨#[98]⟩ 5, aE ⟨#[97]⟩ 7, aE ⟨#[98]⟩ 7], like y (aE ⟨#[97]⟩ 7) := ⟨aE ⟨#[97]⟩ 7, by simp, rfl, rfl, rfl, rfl⟩
theorem pR4 : putR [aE ⟨#[98]⟩ 5, aE ⟨#[97]⟩ 7, aE ⟨#[98]⟩ 7] (aE ⟨#[97]⟩ 7) = 9 := by rw [putR, if_neg (by rw [chk_a vtx_a (by decide)]; decide), if_pos yl4]
theorem pV4 : putV [aE ⟨#[98]⟩ 5, aE ⟨#[97]⟩ 7, aE ⟨#[98]⟩ 7] (aE ⟨#[97]⟩ 7) = [aE ⟨#[98]⟩ 5, aE ⟨#[97]⟩ 7, aE ⟨#[98]⟩ 7] := by rw [putV, if_neg (fun h => h.2 yl4)]
theorem upT3 : upT [aE ⟨#[98]⟩ 5, aE ⟨#[97]⟩ 7, aE ⟨#[98]⟩ 7] 7 9 = [aE ⟨#[98]⟩ 5, aE ⟨#[97]⟩ 7, aE ⟨#[98]⟩ 7] := rfl
theorem bufI0 (g : Sub) : BufI g [] [] [] := ⟨fun i a b => (by simp at b), List.Perm.refl _, List.Pairwise.nil, fun p h => (by cases h), fun p h => (by cases h), List.Pairwise.nil, (by simp), fun p h => (by cases h), fun p h => (by cases h)⟩
/-! deeds -/
structure Dd where
  what : Int
  n : Int
  sm : Int
  e : Ed
  x : Eg
abbrev ddC (d : Dd) : List Value := [I d.what, I d.n, I d.sm, S d.e.src, S d.e.dst, S d.e.lab, I d.e.time, d.e.pv]
theorem ddC_len (d : Dd) : (ddC d).length = 8 := rfl
def psum (ds : List Dd) : Nat := (ds.map fun d => d.x.props.length).sum
theorem psum_snoc {ds : List Dd} {d : Dd} : psum (ds ++ [d]) = psum ds + d.x.props.length := by simp [psum]
def dsum (ds : List Dd) : Nat := ds.length + psum ds
theorem c5 {s : Sy} {L : List Hp} {g : Sub} (w : World) (H : Hd s w (fz g :: L)) : CC Try.prog 5 [].toArray w (fun r w' => ∃ g2, sle g g2 ∧ r = .bool true ∧ Hd s w' (fz g2 :: L)) := by
  refine CC.of (N := 57) Try.func5 rfl rfl rfl ?_
  refine WC.seq ?_
  refine WC.region ?_
  refine l_rd rfl rfl (x_assign ev_c) ?_
  refine WL.nil ?_
  refine WC.seq ?_
  refine WC.region ?_
  refine l_st rfl (s_callL cal6 (c6 _ H) ?_)
  rintro _ w ⟨B, h, M, rfl, H⟩
  have H := BufP.mk (g := g) (bufI0 g) (show Hd s w (pt B (.cells #[.pointer (some ⟨h, 0, none⟩), .map (some M)] 56 (0, 0)) :: Mp TI M (mlo []) :: HeapP h [] :: ot [] :: fz g :: L) from Hd.arrT [_, _, _, _] [1, 2, 3, 0] (by decide) rfl (Hd.pure trivial H))
  refine l_rd rfl rfl (x_assign (by conv => lhs; whnf)) ?_
  refine WL.nil ?_
  refine WC.seq ?_
  refine WC.seq ?_
  refine WC.region ?_
  refine l_rd rfl rfl (x_move (by conv => lhs; whnf)) ?_
  refine l_st rfl (s_callL cal19 (c19 _) ?_)
  rintro _ w ⟨rfl, e1⟩
  have H := H.ext e1
  refine l_st rfl (s_callL cal14 (c14 (x := (aE ⟨#[98]⟩ 7)) (fv := .slice none 0 0) _ H (fun w A h => nilP w) (fun p hp => by cases hp) (by decide) (by decide)) ?_)
  rintro _ w ⟨g1, hg1, rfl, H⟩
  rw [pR1]
  rw [pV1] at H
  refine l_rdD rfl rfl (x_neq rfl rfl) (fun h7 => ?_) (fun h7 => ?_)
  ·
    exact absurd rfl h7
  ·
    refine l_rd rfl rfl (x_move (by conv => lhs; whnf)) ?_
    refine l_gy (wantY rfl rfl rfl) rfl rfl (x_move (by conv => lhs; whnf)) ?_
    refine l_gst (wantY rfl rfl rfl) rfl (s_callL cal19 (c19 _) ?_)
    rintro _ w ⟨rfl, e1⟩
    have H := H.ext e1
    refine l_gst (wantY rfl rfl rfl) rfl (s_callL cal14 (c14 (x := (aE ⟨#[98]⟩ 5)) (fv := .slice none 0 0) _ H (fun w A h => nilP w) (fun p hp => by cases hp) (by decide) (by decide)) ?_)
    rintro _ w ⟨g2, hg2, rfl, H⟩
    rw [pR2]
    rw [pV2] at H
    refine l_gyD (wantY rfl rfl rfl) rfl rfl (x_neq rfl rfl) (fun h12 => ?_) (fun h12 => ?_)
    ·
      exact absurd rfl h12
    ·
      refine l_rd rfl rfl (x_pick0 rfl (by conv => lhs; whnf)) ?_
      refine l_rd rfl rfl (x_move (by conv => lhs; whnf)) ?_
      refine l_gy (wantY rfl rfl rfl) rfl rfl (x_move (by conv => lhs; whnf)) ?_
      refine l_gst (wantY rfl rfl rfl) rfl (s_callL cal19 (c19 _) ?_)
      rintro _ w ⟨rfl, e1⟩
      have H := H.ext e1
      refine l_gst (wantY rfl rfl rfl) rfl (s_callL cal14 (c14 (x := (aE ⟨#[97]⟩ 7)) (fv := .slice none 0 0) _ H (fun w A h => nilP w) (fun p hp => by cases hp) (by decide) (by decide)) ?_)
      rintro _ w ⟨g3, hg3, rfl, H⟩
      rw [pR3]
      rw [pV3] at H
      refine l_gyD (wantY rfl rfl rfl) rfl rfl (x_neq rfl rfl) (fun h18 => ?_) (fun h18 => ?_)
      ·
        exact absurd rfl h18
      ·
        refine l_rd rfl rfl (x_pick0 rfl (by conv => lhs; whnf)) ?_
        refine l_rd rfl rfl (x_move (by conv => lhs; whnf)) ?_
        refine l_gy (wantY rfl rfl rfl) rfl rfl (x_move (by conv => lhs; whnf)) ?_
        refine l_gst (wantY rfl rfl rfl) rfl (s_callL cal19 (c19 _) ?_)
        rintro _ w ⟨rfl, e1⟩
        have H := H.ext e1
        refine l_gst (wantY rfl rfl rfl) rfl (s_callL cal14 (c14 (x := (aE ⟨#[97]⟩ 7)) (fv := .slice none 0 0) _ H (fun w A h => nilP w) (fun p hp => by cases hp) (by decide) (by decide)) ?_)
        rintro _ w ⟨g4, hg4, rfl, H⟩
        rw [pR4]
        rw [pV4] at H
        refine l_gyD (wantY rfl rfl rfl) rfl rfl (x_neq rfl rfl) (fun h24 => ?_) (fun h24 => ?_)
        ·
          exact absurd rfl h24
        ·
          refine l_rd rfl rfl (x_pick0 rfl (by conv => lhs; whnf)) ?_
          refine WL.nil ?_
          refine WC.cond0 rfl ?_
          refine WC.skip ?_
          refine WC.seq ?_
          refine WC.region ?_
          refine l_rd rfl rfl (x_move (by conv => lhs; whnf)) ?_
          refine l_st rfl (s_callL cal8 (c8 _ H) ?_)
          rintro v27 w ⟨es, hE, H⟩
          rw [upT3] at hE H
          obtain ⟨ao, co, rfl⟩ := (H.sl 0 rfl).shape
          refine l_rd rfl rfl (x_assign (by conv => lhs; whnf)) ?_
          refine WL.nil ?_
          refine WC.seq ?_
          obtain ⟨e0, he0⟩ := lt_get (show 0 < es.length by rw [hE.1]; decide)
          obtain ⟨e1, he1⟩ := lt_get (show 1 < es.length by rw [hE.1]; decide)
          obtain ⟨e2, he2⟩ := lt_get (show 2 < es.length by rw [hE.1]; decide)
          have hf0 := hE.2 _ _ _ he0 rfl
          have hf1 := hE.2 _ _ _ he1 rfl
          have hf2 := hE.2 _ _ _ he2 rfl
          obtain ⟨b1, o1, rfl, -⟩ := (show RdS w _ 5 edC es from edl hE (H.sl 0 rfl)).el edC_len he0
          refine WC.region ?_
          refine l_rd rfl rfl (x_move (by conv => lhs; whnf)) ?_
          refine l_rd rfl rfl (x_lenSlice Try.underlying28 rfl rfl) ?_
          refine l_rdD rfl rfl (x_eql rfl rfl) (fun h30 => ?_) (fun h30 => ?_)
          ·
            refine l_rd rfl rfl (x_move (by conv => lhs; whnf)) ?_
            refine l_gy (wantY rfl rfl rfl) rfl rfl (x_move (by conv => lhs; whnf)) ?_
            refine l_gy (wantY rfl rfl rfl) rfl rfl (x_indexAddr Try.underlying28 ty33 rfl rfl (by omega) (by omega)) ?_
            refine l_gy (wantY rfl rfl rfl) rfl rfl (x_fieldAddr Try.underlying33 rfl rfl ty3 (by decide) rfl) ?_
            refine l_gy (wantY rfl rfl rfl) rfl rfl (x_load Try.underlying3 rfl rfl ((RdS.at edC_len (show RdS _ _ 5 edC es from edl hE (H.sl 0 rfl)) he0) 3 _ rfl)) ?_
            refine l_gyD (wantY rfl rfl rfl) rfl rfl (x_eql rfl rfl) (fun h36 => ?_) (fun h36 => ?_)
            ·
              refine l_rd rfl rfl (x_pick1 rfl (by conv => lhs; whnf)) ?_
              refine l_rd rfl rfl (x_move (by conv => lhs; whnf)) ?_
              refine l_gy (wantY rfl rfl rfl) rfl rfl (x_move (by conv => lhs; whnf)) ?_
              refine l_gy (wantY rfl rfl rfl) rfl rfl (x_indexAddr Try.underlying28 ty33 rfl rfl (by omega) (by omega)) ?_
              refine l_gy (wantY rfl rfl rfl) rfl rfl (x_fieldAddr Try.underlying33 rfl rfl ty9 (by decide) rfl) ?_
              refine l_gy (wantY rfl rfl rfl) rfl rfl (x_load Try.underlying9 rfl rfl ((RdS.at edC_len (show RdS _ _ 5 edC es from edl hE (H.sl 0 rfl)) he1) 1 _ rfl)) ?_
              refine l_gyD (wantY rfl rfl rfl) rfl rfl (x_eqlS rfl rfl) (fun h43 => ?_) (fun h43 => ?_)
              ·
                refine l_rd rfl rfl (x_pick1 rfl (by conv => lhs; whnf)) ?_
                refine l_rd rfl rfl (x_move (by conv => lhs; whnf)) ?_
                refine l_gy (wantY rfl rfl rfl) rfl rfl (x_move (by conv => lhs; whnf)) ?_
                refine l_gy (wantY rfl rfl rfl) rfl rfl (x_indexAddr Try.underlying28 ty33 rfl rfl (by omega) (by omega)) ?_
                refine l_gy (wantY rfl rfl rfl) rfl rfl (x_fieldAddr Try.underlying33 rfl rfl ty9 (by decide) rfl) ?_
                refine l_gy (wantY rfl rfl rfl) rfl rfl (x_load Try.underlying9 rfl rfl ((RdS.at edC_len (show RdS _ _ 5 edC es from edl hE (H.sl 0 rfl)) he2) 1 _ rfl)) ?_
                refine l_gyD (wantY rfl rfl rfl) rfl rfl (x_eqlS rfl rfl) (fun h50 => ?_) (fun h50 => ?_)
                ·
                  refine l_rd rfl rfl (x_pick1 rfl (by conv => lhs; whnf)) ?_
                  refine l_rd rfl rfl (x_move (by conv => lhs; whnf)) ?_
                  refine l_gy (wantY rfl rfl rfl) rfl rfl (x_move (by conv => lhs; whnf)) ?_
                  refine l_gst (wantY rfl rfl rfl) rfl (s_callL cal20 (c20 _ (Hd.arrT [_, _, _, _] [2, 3, 0, 1] (by decide) rfl H)) ?_)
                  rintro _ w ⟨rfl, H⟩
                  refine l_gyD (wantY rfl rfl rfl) rfl rfl (x_eql rfl rfl) (fun h55 => ?_) (fun h55 => ?_)
                  ·
                    refine l_rd rfl rfl (x_pick1 rfl (by conv => lhs; whnf)) ?_
                    refine l_rd rfl rfl (x_assign (by conv => lhs; whnf)) ?_
                    refine WL.nil ?_
                    refine WC.ret ?_
                    refine atRet ?_
                    exact RetM.one rfl (by (conv => lhs; whnf); try rfl) ⟨g4, hg1.trans (hg2.trans (hg3.trans hg4)), rfl, Hd.arrT [_, _, _, _] [1] (by decide) rfl H⟩
                  ·
                    exact absurd rfl h55
                ·
                  exact absurd hf2.2.1 h50
              ·
                exact absurd hf1.2.1 h43
            ·
              exact absurd hf0.2.2.2 h36
          ·
            exact absurd rfl h30

theorem c4 {v : Value} {ds : List Dd} (w : World) (hr : RdS w v 8 ddC ds) (hd : ∀ d ∈ ds, (∃ a c, d.e.pv = .slice a d.x.props.length c) ∧ d.x.props.length ≤ 140737488355328) : CC Try.prog 4 [v].toArray w (fun r w' => (∃ m : Nat, r = I m ∧ (m ≤ 200 → dsum ds ≤ 200)) ∧ Ext w w') := by
  obtain ⟨w0, e0⟩ : ∃ w0, w0 = w := ⟨w, rfl⟩
  subst e0
  have H := Hd.start w0
  obtain ⟨a, c, rfl⟩ := hr.shape
  have hle := hr.le
  refine CC.of (N := 27) Try.func4 rfl rfl rfl ?_
  refine WC.seq ?_
  refine WC.region ?_
  refine l_rd rfl rfl (x_assign ev_c) ?_
  refine WL.nil ?_
  refine WC.seq ?_
  refine WC.region ?_
  refine l_rd rfl rfl (x_move (by conv => lhs; whnf)) ?_
  refine l_rd rfl rfl (x_lenSlice Try.underlying22 rfl rfl) ?_
  refine l_rd rfl rfl (x_assign (by conv => lhs; whnf)) ?_
  refine WL.nil ?_
  refine WC.seq ?_
  refine WC.seq ?_
  refine WC.region ?_
  refine l_rd rfl rfl (x_assign ev_c) ?_
  refine WL.nil ?_
  refine WC.block ?_
  refine WC.loopN (I := fun n ρ w => ∃ i m : Nat, n = ds.length - i ∧ i ≤ ds.length ∧ m = ds.length + psum (ds.take i) ∧ m ≤ 281474976710656 ∧ ρ 4 = I i ∧ ρ 3 = I m ∧ ρ 0 = .slice a ds.length c ∧ Hd (sy w0) w [fr w0]) (n0 := _) (⟨0, ds.length, rfl, Nat.zero_le _, by simp [psum], by omega, rfl, rfl, rfl, H⟩) ?_
  repeat clear H
  rintro n ρ w ⟨i, m, hn, hi, hm, hmb, h4, h3, h0, H⟩
  refine WC.seq ?_
  refine WC.seq ?_
  refine WC.region ?_
  refine l_rd rfl rfl (x_move h4) ?_
  refine l_rd rfl rfl (x_move h0) ?_
  refine l_rd rfl rfl (x_lenSlice Try.underlying22 rfl rfl) ?_
  refine l_rdD rfl rfl (x_lss rfl rfl) (fun h10 => ?_) (fun h10 => ?_)
  ·
    refine l_rd rfl rfl (x_move (by conv => lhs; whnf)) ?_
    refine l_gy (wantY rfl rfl rfl) rfl rfl (x_move h3) ?_
    refine l_gyD (wantY rfl rfl rfl) rfl rfl (x_leq rfl rfl) (fun h13 => ?_) (fun h13 => ?_)
    ·
      refine l_rd rfl rfl (x_pick1 rfl (by conv => lhs; whnf)) ?_
      refine WL.nil ?_
      refine WC.cond1 rfl ?_
      refine WC.skip ?_
      refine WC.seq ?_
      refine WC.block ?_
      obtain ⟨d, hdi⟩ := lt_get (show i < ds.length by omega)
      obtain ⟨⟨pa, pc, hpv⟩, hpl⟩ := hd d (List.mem_of_getElem? hdi)
      obtain ⟨d1, d2, d3, ⟨q1, q2, q3, q4, q5⟩, x⟩ := d
      simp only at hpv
      subst hpv
      have hpl : x.props.length ≤ 140737488355328 := hpl
      obtain ⟨b1, o1, rfl, hc1⟩ := ((H.old 0 rfl).rdS hr).el ddC_len hdi
      refine WC.region ?_
      refine l_rd rfl rfl (x_move h3) ?_
      refine l_rd rfl rfl (x_move h0) ?_
      refine l_rd rfl rfl (x_move h4) ?_
      refine l_rd rfl rfl (x_indexAddr Try.underlying22 ty35 rfl rfl (by omega) (by omega)) ?_
      refine l_rd rfl rfl (x_fieldAddr Try.underlying35 rfl rfl ty33 (by decide) rfl) ?_
      refine l_rd rfl rfl (x_fieldAddr Try.underlying33 rfl rfl ty31 (by decide) rfl) ?_
      refine l_rd rfl rfl (x_load Try.underlying31 rfl rfl (hc1 7 _ rfl)) ?_
      refine l_rd rfl rfl (x_lenSlice Try.underlying31 rfl rfl) ?_
      refine l_rd rfl rfl (x_addN (a := m) (b := x.props.length) rfl rfl (by omega)) ?_
      refine l_rd rfl rfl (x_assign (by conv => lhs; whnf)) ?_
      refine WL.nil ?_
      refine WC.region ?_
      refine l_rd rfl rfl (x_move h4) ?_
      refine l_rd rfl rfl (x_addN (a := i) (b := 1) rfl rfl (by omega)) ?_
      refine l_rd rfl rfl (x_assign (by conv => lhs; whnf)) ?_
      refine WL.nil ?_
      exact ⟨rfl, _, by omega, i + 1, m + x.props.length, rfl, by omega, by rw [take_snoc hdi, psum_snoc, hm]; exact Nat.add_assoc _ _ _, by omega, rfl, rfl, h0, H⟩
    ·
      have hst : i = ds.length ∨ 200 < m := .inr (by omega)
      refine l_rd rfl rfl (x_pick1 rfl (by conv => lhs; whnf)) ?_
      refine WL.nil ?_
      refine WC.cond0 rfl ?_
      refine WC.exit ?_
      refine WC.seq ?_
      refine WC.region ?_
      refine l_rd rfl rfl (x_move h3) ?_
      refine l_rd rfl rfl (x_assign (by conv => lhs; whnf)) ?_
      refine WL.nil ?_
      refine WC.ret ?_
      refine atRet ?_
      exact RetM.one rfl (by (conv => lhs; whnf); try rfl) ⟨⟨m, rfl, fun h => by rcases hst with h2 | h2; subst h2; rw [List.take_length] at hm; unfold dsum; omega; omega⟩, H.below 0 rfl⟩
  ·
    have hst : i = ds.length ∨ 200 < m := .inl (by omega)
    refine l_rd rfl rfl (x_move (by conv => lhs; whnf)) ?_
    refine l_gn (wantN rfl rfl rfl) rfl ?_
    refine l_gn (wantN rfl rfl rfl) rfl ?_
    refine l_rd rfl rfl (x_pick0 rfl ev_c) ?_
    refine WL.nil ?_
    refine WC.cond0 rfl ?_
    refine WC.exit ?_
    refine WC.seq ?_
    refine WC.region ?_
    refine l_rd rfl rfl (x_move h3) ?_
    refine l_rd rfl rfl (x_assign (by conv => lhs; whnf)) ?_
    refine WL.nil ?_
    refine WC.ret ?_
    refine atRet ?_
    exact RetM.one rfl (by (conv => lhs; whnf); try rfl) ⟨⟨m, rfl, fun h => by rcases hst with h2 | h2; subst h2; rw [List.take_length] at hm; unfold dsum; omega; omega⟩, H.below 0 rfl⟩

end Go.Proofs.Ytahdodijpmkddaa
set_option linter.unusedVariables false
set_option linter.unusedSimpArgs false
namespace Go.Proofs.Ytahdodijpmkddaa
open Go Go.RowKit KE Go.Proofs
theorem ty30 : Ty Try.prog 30 (.agg #[(.slice none 0 0)]) 1 24 := Ty.of (by kernel_rfl)
theorem cal4 : Cal Try.prog 4 := ⟨_, Try.func4, rfl, by decide⟩
theorem cal5 : Cal Try.prog 5 := ⟨_, Try.func5, rfl, by decide⟩
theorem cal7 : Cal Try.prog 7 := ⟨_, Try.func7, rfl, by decide⟩
theorem cal10 : Cal Try.prog 10 := ⟨_, Try.func10, rfl, by decide⟩
theorem cal12 : Cal Try.prog 12 := ⟨_, Try.func12, rfl, by decide⟩
theorem cal13 : Cal Try.prog 13 := ⟨_, Try.func13, rfl, by decide⟩
theorem cal15 : Cal Try.prog 15 := ⟨_, Try.func15, rfl, by decide⟩
theorem cal16 : Cal Try.prog 16 := ⟨_, Try.func16, rfl, by decide⟩
theorem cal18 : Cal Try.prog 18 := ⟨_, Try.func18, rfl, by decide⟩

def DOk (w : World) (d : Dd) : Prop := EdR w d.e d.x ∧ (∀ p ∈ d.x.props, p.key.size ≤ 140737488355328 ∧ p.text.size ≤ 140737488355328) ∧ d.x.src.size ≤ 140737488355328 ∧ d.x.dst.size ≤ 140737488355328 ∧ d.x.lab.size ≤ 140737488355328
theorem mem_le_sum : ∀ {l : List Nat} {n : Nat}, n ∈ l → n ≤ l.sum
  | m :: l, n, h => by
    rcases List.mem_cons.1 h with rfl | h
    · simp
    · have := mem_le_sum h; simp; omega
theorem prop_le {ds : List Dd} {d : Dd} (h : dsum ds ≤ 200) (hd : d ∈ ds) : d.x.props.length ≤ 1000 := by
  have : d.x.props.length ≤ psum ds := by
    unfold psum
    exact mem_le_sum (List.mem_map_of_mem (f := fun d : Dd => d.x.props.length) hd)
  unfold dsum at h; omega
theorem upT_len {V : List Eg} {t m : Int} : (upT V t m).length ≤ V.length := Nat.le_trans (List.length_take_le' _ _) (List.takeWhile_sublist _).length_le
theorem upT_mem {V : List Eg} {t m : Int} {y : Eg} (h : y ∈ upT V t m) : y ∈ V := (List.takeWhile_sublist _).subset (List.mem_of_mem_take h)
theorem putR_perm {V rs : List Eg} {x : Eg} (h : V.Perm rs) : putR V x = putR rs x := by
  unfold putR
  have := like_perm (x := x) h
  by_cases hl : ∃ y ∈ V, like y x
  · rw [if_pos hl, if_pos (this.1 hl)]
  · rw [if_neg hl, if_neg (fun q => hl (this.2 q))]
theorem put_perm {V rs : List Eg} {x : Eg} (h : V.Perm rs) : (putV V x).Perm (putD rs x) := by
  unfold putV putD
  have := like_perm (x := x) h
  by_cases hl : chk x.src x.dst x.lab x.time x.props = 0 ∧ ¬ ∃ y ∈ V, like y x
  · rw [if_pos hl, if_pos ⟨hl.1, fun q => hl.2 (this.2 q)⟩]
    exact (insV_perm x V).trans ((h.cons x).trans (List.perm_append_comm (l₁ := [x])))
  · rw [if_neg hl, if_neg (fun q => hl ⟨q.1, fun z => q.2 (this.1 z)⟩)]
    exact h
theorem putV_len (V : List Eg) (x : Eg) : (putV V x).length ≤ V.length + 1 := by
  unfold putV
  split
  · rw [(insV_perm x V).length_eq]; simp
  · omega
theorem in_all {w : World} {a : Option Addr} {c : Nat} {xs : List Pr} (h : RdC w (.slice a (xs.length + 12) c) 4 (xs.length + 12) ((xs ++ mksK 12).flatMap prC)) : RdS w (.slice a (xs.length + 12) c) 4 prC (xs ++ mksK 12) := by
  unfold RdS; rw [List.length_append, mksK_len]; exact h
theorem in_pre {w : World} {a : Option Addr} {c : Nat} {xs : List Pr} (h : RdC w (.slice a (xs.length + 12) c) 4 (xs.length + 12) ((xs ++ mksK 12).flatMap prC)) : RdS w (.slice a xs.length c) 4 prC xs := by
  have h1 := h.pre xs.length c (by omega)
  rw [flat_take prC_len, List.take_left] at h1
  exact h1
theorem in_rd {s : Sy} {w : World} {L : List Hp} {a : Option Addr} {c : Nat} {xs : List Pr} (H : Hd s w L) (hm : Sl (.slice a (xs.length + 12) c) 86 4 (xs.length + 12) ((xs ++ mksK 12).flatMap prC) ∈ L) : RdS w (.slice a xs.length c) 4 prC xs := in_pre (sl_in H hm)
theorem in_rdi {s : Sy} {w : World} {L : List Hp} {a : Option Addr} {c : Nat} {xs : List Pr} (H : Hd s w L) (i : Nat) (hi : L[i]? = some (Sl (.slice a (xs.length + 12) c) 86 4 (xs.length + 12) ((xs ++ mksK 12).flatMap prC))) : RdS w (.slice a xs.length c) 4 prC xs := in_pre (H.sl i hi)
theorem c3 {v : Value} {ds : List Dd} (w : World) (hr : RdS w v 8 ddC ds) (hd : ∀ d ∈ ds, DOk w d) : CC Try.prog 3 [v].toArray w (fun r w' => r = .bool true ∧ Ext w w') := by
  obtain ⟨w0, e0⟩ : ∃ w0, w0 = w := ⟨w, rfl⟩
  subst e0
  have H : Hd (sy w0) w0 (fz (ofW w0) :: []) := Hd.startZ w0
  obtain ⟨a, c, rfl⟩ := hr.shape
  have hle := hr.le
  have hF : Fx (ofW w0) (fun w => RdS w (.slice a ds.length c) 8 ddC ds) := fun w hw => Old.rdS hw hr
  have hd4 : ∀ d ∈ ds, (∃ a c, d.e.pv = .slice a d.x.props.length c) ∧ d.x.props.length ≤ 140737488355328 := fun d hdm => ⟨(hd d hdm).1.2.2.2.2.shape, (hd d hdm).1.2.2.2.2.le⟩
  refine CC.of (N := 87) Try.func3 rfl rfl rfl ?_
  refine WC.seq ?_
  refine WC.region ?_
  refine l_rd rfl rfl (x_assign ev_c) ?_
  refine WL.nil ?_
  refine WC.seq ?_
  refine WC.seq ?_
  refine WC.region ?_
  refine l_rd rfl rfl (x_move (by conv => lhs; whnf)) ?_
  refine l_st rfl (s_callL cal4 (c4 _ (hF.at H 0 rfl) hd4) ?_)
  rintro _ w ⟨⟨m, rfl, hm⟩, e1⟩
  have H := H.ext e1
  refine l_rdD rfl rfl (x_gtr rfl rfl) (fun h13 => ?_) (fun h13 => ?_)
  ·
    refine WL.nil ?_
    refine WC.cond1 rfl ?_
    refine WC.seq ?_
    refine WC.region ?_
    refine l_st rfl (s_callL cal5 (c5 _ (Hd.arrT [_] [0] (by decide) rfl H)) ?_)
    rintro _ w ⟨g9, hg9, rfl, H⟩
    refine l_rd rfl rfl (x_assign (by conv => lhs; whnf)) ?_
    refine WL.nil ?_
    refine WC.ret ?_
    refine atRet ?_
    exact RetM.one rfl (by (conv => lhs; whnf); try rfl) ⟨rfl, H.belowZ 0 rfl hg9⟩
  ·
    have hds : dsum ds ≤ 200 := hm (by omega)
    refine WL.nil ?_
    refine WC.cond0 rfl ?_
    refine WC.skip ?_
    refine WC.seq ?_
    refine WC.region ?_
    refine l_st rfl (s_callL cal6 (c6 _ H) ?_)
    rintro _ w ⟨B, h, M, rfl, H⟩
    have H := BufP.mk (g := ofW w0) (bufI0 _) (show Hd (sy w0) w (pt B (.cells #[.pointer (some ⟨h, 0, none⟩), .map (some M)] 56 (0, 0)) :: Mp TI M (mlo []) :: HeapP h [] :: ot [] :: fz (ofW w0) :: []) from Hd.arrT [_, _, _, _] [1, 2, 3, 0] (by decide) rfl (Hd.pure trivial H))
    refine l_rd rfl rfl (x_assign (by conv => lhs; whnf)) ?_
    refine WL.nil ?_
    refine WC.seq ?_
    refine WC.region ?_
    refine l_rd rfl rfl (x_buildL (pl := [(0, 1)]) (cells := [.slice none 0 0]) Try.underlying30 ty30 (by kernel_rfl) rfl) ?_
    refine l_st rfl (s_box (by conv => lhs; whnf) H fun b17 w H => ?_)
    refine l_rd rfl rfl (x_assign (by conv => lhs; whnf)) ?_
    refine WL.nil ?_
    refine WC.seq ?_
    refine WC.seq ?_
    have H := RefP.mk (g := ofW w0) (es := []) (rs := []) (fun w _ => ⟨⟨rfl, by simp⟩, .inl ⟨rfl, none, 0, rfl⟩⟩) trivial (by simp) (fun p h => by cases h) H
    have H := H.swp
    refine WC.region ?_
    refine l_rd rfl rfl (x_assign ev_c) ?_
    refine WL.nil ?_
    refine WC.block ?_
    refine WC.loopN (I := fun n ρ w => ∃ (i B R : Nat) (g : Sub) (V rs : List Eg), n = ds.length - i ∧ i ≤ ds.length ∧ sle (ofW w0) g ∧ V.Perm rs ∧ V.length ≤ i ∧ ρ 5 = I i ∧ ρ 3 = .pointer (some ⟨B, 0, none⟩) ∧ ρ 4 = .pointer (some ⟨R, 0, none⟩) ∧ ρ 0 = .slice a ds.length c ∧ Hd (sy w0) w (BufP g B V :: RefP g R rs :: fz g :: [])) (n0 := _) (⟨0, B, b17, ofW w0, [], [], rfl, Nat.zero_le _, sle.refl _, List.Perm.refl _, Nat.le_refl _, rfl, rfl, rfl, rfl, H⟩) ?_
    repeat clear H
    rintro n ρ w ⟨i, B, R, g, V, rs, hn, hi, hg, hVR, hVi, h5, h3, h4, h0, H⟩
    obtain ⟨hlen, hpl, hsrt⟩ := BufP.facts H
    have hil : ds.length ≤ 200 := by unfold dsum at hds; omega
    refine WC.seq ?_
    refine WC.seq ?_
    refine WC.region ?_
    refine l_rd rfl rfl (x_move h5) ?_
    refine l_rd rfl rfl (x_move h0) ?_
    refine l_rd rfl rfl (x_lenSlice Try.underlying22 rfl rfl) ?_
    refine l_rdD rfl rfl (x_lss rfl rfl) (fun h21 => ?_) (fun h21 => ?_)
    ·
      refine WL.nil ?_
      refine WC.cond1 rfl ?_
      refine WC.skip ?_
      refine WC.seq ?_
      refine WC.block ?_
      refine WC.seq ?_
      obtain ⟨d, hdi⟩ := lt_get (show i < ds.length by omega)
      have hdm := List.mem_of_getElem? hdi
      obtain ⟨hE0, hsz, hs1, hs2, hs3⟩ := hd d hdm
      have hxp := prop_le hds hdm
      obtain ⟨wh, nn, sm, ⟨q1, q2, q3, q4, q5⟩, x⟩ := d
      have h1 : q1 = x.src := hE0.1
      have h2 : q2 = x.dst := hE0.2.1
      have h6 : q3 = x.lab := hE0.2.2.1
      have h7 : q4 = x.time := hE0.2.2.2.1
      subst h1 h2 h6 h7
      have hpr : RdS w0 q5 4 prC x.props := hE0.2.2.2.2
      obtain ⟨pa0, pc0, rfl⟩ := hpr.shape
      have hFd : Fx (ofW w0) (fun w => RdS w (.slice pa0 x.props.length pc0) 4 prC x.props) := fun w hw => Old.rdS hw hpr
      obtain ⟨b1, o1, rfl, -⟩ := ((hF.mono hg).at H 2 rfl).el ddC_len hdi
      refine WC.region ?_
      refine l_rd rfl rfl (x_move h0) ?_
      refine l_rd rfl rfl (x_move h5) ?_
      refine l_rd rfl rfl (x_indexAddr Try.underlying22 ty35 rfl rfl (by omega) (by omega)) ?_
      refine l_rd rfl rfl (x_loadF (vs := [_, _, _, _, _, _, _, _]) Try.underlying35 rfl ty35 rfl rfl (sub_row 0 (RdS.at ddC_len ((hF.mono hg).at H 2 rfl) hdi) rfl)) ?_
      refine l_st rfl (s_alloc ty35 H fun b6 w H => ?_)
      refine l_no (s_stA 0 rfl ty35 rfl (by conv => lhs; whnf) rfl rfl rfl H fun w H => ?_)
      refine WL.nil ?_
      refine WC.seq ?_
      refine WC.seq ?_
      refine WC.region ?_
      refine l_rd rfl rfl (x_fieldAddr Try.underlying35 rfl rfl ty3 (by decide) rfl) ?_
      refine l_rd rfl rfl (x_load Try.underlying3 rfl rfl (H.cellL 0 rfl rfl)) ?_
      refine l_st rfl (s_callL cal7 (c7 _ (by decide)) ?_)
      rintro _ w ⟨rfl, e1⟩
      have H := H.ext e1
      refine WL.nil ?_
      refine WC.block ?_
      refine WC.seq ?_
      refine WC.region ?_
      refine l_rdD rfl rfl (x_eql rfl rfl) (fun h52 => ?_) (fun h52 => ?_)
      ·
        refine l_rd rfl rfl (x_assign (by conv => lhs; whnf)) ?_
        refine WL.nil ?_
        refine WC.cond1 rfl ?_
        refine WC.seq ?_
        refine WC.region ?_
        refine l_rd rfl rfl (x_fieldAddr Try.underlying35 rfl rfl ty3 (by decide) rfl) ?_
        refine l_rd rfl rfl (x_load Try.underlying3 rfl rfl (H.cellL 0 rfl rfl)) ?_
        refine l_st rfl (s_callL cal7 (c7 _ (by decide)) ?_)
        rintro _ w ⟨rfl, e1⟩
        have H := H.ext e1
        refine l_rd rfl rfl (x_assign (by conv => lhs; whnf)) ?_
        refine WL.nil ?_
        refine WC.seq ?_
        refine WC.region ?_
        refine l_rd rfl rfl (x_move h3) ?_
        refine l_rd rfl rfl (x_fieldAddr Try.underlying35 rfl rfl ty3 (by decide) rfl) ?_
        refine l_rd rfl rfl (x_load Try.underlying3 rfl rfl (H.cellL 0 rfl rfl)) ?_
        refine l_rd rfl rfl (x_move (by conv => lhs; whnf)) ?_
        refine l_st rfl (s_callL cal8 (c8 _ (Hd.arrT [_, _, _, _] [1, 3, 0, 2] (by decide) rfl H)) ?_)
        rintro v60 w ⟨es, hE, H⟩
        obtain ⟨ao, co, rfl⟩ := (H.sl 0 rfl).shape
        refine l_rd rfl rfl (x_assign (by conv => lhs; whnf)) ?_
        refine WL.nil ?_
        refine WC.seq ?_
        refine WC.seq ?_
        refine WC.region ?_
        refine l_rd rfl rfl (x_move (by conv => lhs; whnf)) ?_
        refine l_rd rfl rfl (x_move h4) ?_
        refine l_rd rfl rfl (x_fieldAddr Try.underlying35 rfl rfl ty3 (by decide) rfl) ?_
        refine l_rd rfl rfl (x_load Try.underlying3 rfl rfl (H.cellL 4 rfl rfl)) ?_
        refine l_rd rfl rfl (x_move (by conv => lhs; whnf)) ?_
        refine l_st rfl (s_callL cal10 (c10 _ (Hd.arrT [_, _, _, _, _, _] [5, 3, 0, 1, 2, 4] (by decide) rfl H)) ?_)
        rintro v66 w ⟨g2, ys, hg2, hP2, hW2, hx2, H⟩
        have hys : ys = V := uniq hsrt hW2 (hP2.trans hVR.symm)
        rw [hys] at hx2 H
        refine l_st rfl (s_callL cal9 (c9 _ (edl_own hE H 2 rfl 3 rfl) (hx2.at H 1 rfl)) ?_)
        rintro r w ⟨hr1, e1⟩
        have H := H.ext e1
        obtain rfl : r = .bool true := hr1.trans (by simp)
        refine l_rd rfl rfl (x_not rfl) ?_
        refine WL.nil ?_
        refine WC.cond0 rfl ?_
        refine WC.skip ?_
        refine WC.region ?_
        refine l_rd rfl rfl (x_move (by conv => lhs; whnf)) ?_
        refine l_st rfl (s_callL cal11 (c11 _ (Hd.arrT [_, _, _, _, _, _] [2, 3, 0, 1, 4, 5] (by decide) rfl H) hE.1 rfl (Nat.le_trans upT_len hlen) (fun y hy => hpl y (upT_mem hy))) ?_)
        rintro _ w H
        refine WL.nil ?_
        refine WC.seq ?_
        have hVR2 : (V.drop (upT V nn (sm % 5)).length).Perm (V.drop (upT V nn (sm % 5)).length) := List.Perm.refl _
        have hgg : sle (ofW w0) g2 := hg.trans hg2
        have hl2 : (V.drop (upT V nn (sm % 5)).length).length ≤ i + 1 := by rw [List.length_drop]; omega
        have H := Hd.weak (Hd.arrT [_, _, _, _] [2, 0, 1, 3] (by decide) rfl H) (BufP.monoH hg2)
        refine WC.region ?_
        refine l_rd rfl rfl (x_move h3) ?_
        refine l_rd rfl rfl (x_move h4) ?_
        refine l_rd rfl rfl (x_fieldAddr Try.underlying35 rfl rfl ty33 (by decide) rfl) ?_
        refine l_rd rfl rfl (x_loadF (vs := [_, _, _, _, _]) Try.underlying33 rfl ty33 rfl rfl (H.cellsL 3 rfl rfl)) ?_
        refine l_st rfl (s_callL cal18 (c18 (x := x) (fv := .slice pa0 x.props.length pc0) _ H hVR2 ⟨_, _, _, rfl⟩) ?_)
        rintro _ w ⟨rfl, H⟩
        refine l_rd rfl rfl (x_not rfl) ?_
        refine WL.nil ?_
        refine WC.cond0 rfl ?_
        refine WC.skip ?_
        refine WC.region ?_
        refine l_rd rfl rfl (x_move h5) ?_
        refine l_rd rfl rfl (x_addN (a := i) (b := 1) rfl rfl (by omega)) ?_
        refine l_rd rfl rfl (x_assign (by conv => lhs; whnf)) ?_
        refine WL.nil ?_
        exact ⟨rfl, ds.length - (i + 1), by omega, i + 1, B, R, g2, (V.drop (upT V nn (sm % 5)).length), (V.drop (upT V nn (sm % 5)).length), rfl, by omega, hgg, hVR2, hl2, rfl, h3, h4, h0, Hd.arrT [_, _, _, _] [0, 1, 2] (by decide) rfl H⟩
      ·
        refine l_rd rfl rfl (x_assign (by conv => lhs; whnf)) ?_
        refine WL.nil ?_
        refine WC.cond0 rfl ?_
        refine WC.seq ?_
        refine WC.region ?_
        refine l_rdD rfl rfl (x_eql rfl rfl) (fun h72 => ?_) (fun h72 => ?_)
        ·
          refine l_rd rfl rfl (x_assign (by conv => lhs; whnf)) ?_
          refine WL.nil ?_
          refine WC.cond1 rfl ?_
          refine WC.seq ?_
          refine WC.region ?_
          refine l_rd rfl rfl (x_move h3) ?_
          refine l_st rfl (s_callL cal12 (c12 _ (Hd.arrT [_, _, _, _] [1, 3, 0, 2] (by decide) rfl H)) ?_)
          rintro _ w ⟨B2, rfl, H⟩
          refine l_rd rfl rfl (x_assign (by conv => lhs; whnf)) ?_
          refine WL.nil ?_
          refine WC.seq ?_
          refine WC.region ?_
          refine l_rd rfl rfl (x_move h3) ?_
          refine l_rd rfl rfl (x_fieldAddr Try.underlying35 rfl rfl ty3 (by decide) rfl) ?_
          refine l_rd rfl rfl (x_load Try.underlying3 rfl rfl (H.cellL 3 rfl rfl)) ?_
          refine l_st rfl (s_callL cal8 (c8 _ (Hd.arrT [_, _, _, _, _] [1, 2, 0, 3, 4] (by decide) rfl H)) ?_)
          rintro v78 w ⟨es, hE, H⟩
          obtain ⟨ao, co, rfl⟩ := (H.sl 0 rfl).shape
          refine WL.nil ?_
          refine WC.region ?_
          refine l_rd rfl rfl (x_move (by conv => lhs; whnf)) ?_
          refine l_rd rfl rfl (x_assign (by conv => lhs; whnf)) ?_
          refine WL.nil ?_
          refine WC.seq ?_
          have hVR2 := hVR
          have hgg := hg
          have hl2 : V.length ≤ i + 1 := by omega
          have H := Hd.arrT [_, _, _, _, _, _, _] [4, 6, 3, 0, 1, 2, 5] (by decide) rfl H
          refine WC.region ?_
          refine l_rd rfl rfl (x_move (by conv => lhs; whnf)) ?_
          refine l_rd rfl rfl (x_move h4) ?_
          refine l_rd rfl rfl (x_fieldAddr Try.underlying35 rfl rfl ty33 (by decide) rfl) ?_
          refine l_rd rfl rfl (x_loadF (vs := [_, _, _, _, _]) Try.underlying33 rfl ty33 rfl rfl (H.cellsL 6 rfl rfl)) ?_
          refine l_st rfl (s_callL cal18 (c18 (x := x) (fv := .slice pa0 x.props.length pc0) _ H hVR2 ⟨_, _, _, rfl⟩) ?_)
          rintro _ w ⟨rfl, H⟩
          refine l_rd rfl rfl (x_not rfl) ?_
          refine WL.nil ?_
          refine WC.cond0 rfl ?_
          refine WC.skip ?_
          refine WC.region ?_
          refine l_rd rfl rfl (x_move h5) ?_
          refine l_rd rfl rfl (x_addN (a := i) (b := 1) rfl rfl (by omega)) ?_
          refine l_rd rfl rfl (x_assign (by conv => lhs; whnf)) ?_
          refine WL.nil ?_
          exact ⟨rfl, ds.length - (i + 1), by omega, i + 1, B2, R, g, V, rs, rfl, by omega, hgg, hVR2, hl2, rfl, rfl, h4, h0, Hd.arrT [_, _, _, _, _, _, _] [0, 1, 2] (by decide) rfl H⟩
        ·
          refine l_rd rfl rfl (x_assign (by conv => lhs; whnf)) ?_
          refine WL.nil ?_
          refine WC.cond0 rfl ?_
          refine WC.seq ?_
          refine WC.region ?_
          refine l_rd rfl rfl (x_fieldAddr Try.underlying35 rfl rfl ty33 (by decide) rfl) ?_
          refine l_rd rfl rfl (x_loadF (vs := [_, _, _, _, _]) Try.underlying33 rfl ty33 rfl rfl (H.cellsL 0 rfl rfl)) ?_
          refine l_st rfl (s_callL cal13 (c13 (e := ⟨x.src, x.dst, x.lab, x.time, .slice pa0 x.props.length pc0⟩) _ H (fun w A h => (hFd.mono hg).in h (List.mem_append_right _ ((List.mem_cons_of_mem _ (List.mem_cons_of_mem _ (List.mem_cons_of_mem _ List.mem_cons_self)))))) hxp) ?_)
          rintro _ w ⟨ia, ic, rfl, H⟩
          have hic := (Hd.cap H 0 rfl).1
          refine l_st rfl (s_alloc ty33 H fun b10 w H => ?_)
          refine l_no (s_stA 0 rfl ty33 rfl (by conv => lhs; whnf) rfl rfl rfl H fun w H => ?_)
          refine WL.nil ?_
          refine WC.seq ?_
          refine WC.seq ?_
          refine WC.draw mixed [2, 6, 12] [[], [], [0, 1], [], [], [4], [0, 1, 2, 3, 4, 5], [0, 1, 2, 3, 4, 5, 6], [0, 1, 2, 3, 4, 5, 6, 7], [0, 1, 2, 3, 4, 5, 6, 7, 8], [0, 1, 2, 3, 4, 5, 6, 7, 8], [0, 1, 2, 3, 4, 5, 6, 7, 8, 10], [0, 1, 2, 3, 4, 5, 6, 7, 8, 9, 10, 11], [0, 1, 2, 3, 4, 5, 6, 7, 8, 9, 10, 11, 12], [0, 1, 2, 3, 4, 5, 6, 7, 8, 9, 10, 11, 12, 13]] [0, 1, 3, 4, 5, 2, 6, 7, 8, 9, 10, 11, 12, 13, 14] (by kernel_rfl) ?_
          have H := H.drew
          refine k_rd rfl rfl (RS.of rfl rfl (x_move h3)) ?_
          refine k_rd rfl rfl (RS.of rfl rfl (x_loadF (vs := [_, _, _, _, _]) Try.underlying33 rfl ty33 rfl rfl (H.cellsL 0 rfl rfl))) ?_
          refine k_rd rfl rfl (RS.of rfl rfl (x_move h4)) ?_
          refine k_rd rfl rfl (RS.of rfl rfl (x_fieldAddr Try.underlying35 rfl rfl ty33 (by decide) rfl)) ?_
          refine k_rd rfl rfl (RS.of rfl rfl (x_loadF (vs := [_, _, _, _, _]) Try.underlying33 rfl ty33 rfl rfl (H.cellsL 2 rfl rfl))) ?_
          refine k_st rfl rfl rfl (s_callL cal14 (c14 (x := x) (fv := .slice ia x.props.length ic) _ (Hd.arrT [_, _, _, _, _, _] [3, 5, 0, 1, 2, 4] (by decide) rfl H) (fun w A h => in_rd h (List.mem_append_right _ ((List.mem_cons_of_mem _ List.mem_cons_self)))) hsz hxp (by omega)) ?_)
          rintro _ w ⟨g1, hg1, rfl, H⟩
          refine ⟨⟨RS.of rfl rfl (x_loadF (vs := [_, _, _, _, _]) Try.underlying33 rfl ty33 rfl rfl (H.cellsL 4 rfl rfl)), ⟨RS.of rfl rfl (x_fieldAddr Try.underlying35 rfl rfl ty33 (by decide) rfl), ⟨RS.of rfl rfl (x_move h4), ⟨trivial, ⟨trivial, trivial⟩⟩⟩⟩⟩, ?_⟩
          refine k_st rfl rfl rfl (s_callL cal15 (c15 (x := x) (fv := .slice pa0 x.props.length pc0) _ (Hd.weak (Hd.arrT [_, _, _, _, _, _] [5, 1, 0, 2, 3, 4] (by decide) rfl H) (RefP.mono hg1)) (fun w A h => (hFd.mono (hg.trans hg1)).in h (List.mem_append_right _ (List.mem_cons_self))) hsz hs1 hs2 hs3 hxp (by rw [← hVR.length_eq]; omega)) ?_)
          rintro _ w ⟨g2, hg2, rfl, H⟩
          refine ⟨⟨trivial, ⟨trivial, ⟨trivial, ⟨trivial, ⟨trivial, trivial⟩⟩⟩⟩⟩, ?_⟩
          refine k_rdD rfl rfl rfl rfl (x_neq rfl rfl) (fun h41 => ?_) (fun h41 => ?_)
          ·
            exact absurd (putR_perm hVR) h41
          ·
            refine k_rd rfl rfl (RS.of rfl rfl (x_move (by conv => lhs; whnf))) ?_
            refine k_rd rfl rfl (RS.yes rfl (wantY rfl rfl rfl) (x_loadF (vs := [_, _, _, _, _]) Try.underlying33 rfl ty33 rfl rfl (H.cellsL 3 rfl rfl))) ?_
            refine k_rd rfl rfl (RS.yes rfl (wantY rfl rfl rfl) (x_fieldAddr Try.underlying35 rfl rfl ty33 (by decide) rfl)) ?_
            refine k_rd rfl rfl (RS.yes rfl (wantY rfl rfl rfl) (x_loadF (vs := [_, _, _, _, _]) Try.underlying33 rfl ty33 rfl rfl (H.cellsL 5 rfl rfl))) ?_
            refine k_st rfl rfl (wantY rfl rfl rfl) (s_callL cal16 (c16 (x := x) (e := ⟨x.src, x.dst, x.lab, x.time, .slice ia x.props.length ic⟩) (f := ⟨x.src, x.dst, x.lab, x.time, .slice pa0 x.props.length pc0⟩) (a := ia) (c := ic) _ ⟨rfl, rfl, rfl, rfl, in_rdi H 4 rfl⟩ ⟨rfl, rfl, rfl, rfl, (hFd.mono (hg.trans (hg1.trans hg2))).at H 1 rfl⟩ rfl (in_all (H.sl 4 rfl)) hic hxp) ?_)
            rintro r w ⟨hr1, e1⟩
            have H := H.ext e1
            obtain rfl : r = .bool true := hr1.trans (rfl)
            refine ⟨⟨trivial, ⟨trivial, ⟨trivial, ⟨trivial, ⟨trivial, ⟨trivial, ⟨trivial, ⟨trivial, ⟨trivial, ⟨trivial, trivial⟩⟩⟩⟩⟩⟩⟩⟩⟩⟩, ?_⟩
            refine k_rd rfl rfl (RS.yes rfl (wantY rfl rfl rfl) (x_not rfl)) ?_
            refine k_rd rfl rfl (RS.of rfl rfl (x_pick0 rfl (by conv => lhs; whnf))) ?_
            show _
            refine WC.cond0 rfl ?_
            refine WC.skip ?_
            refine WC.region ?_
            refine l_rd rfl rfl (x_loadF (vs := [_, _, _, _, _]) Try.underlying33 rfl ty33 rfl rfl (H.cellsL 3 rfl rfl)) ?_
            refine l_st rfl (s_callL cal17 (c17 (e := ⟨x.src, x.dst, x.lab, x.time, .slice ia x.props.length ic⟩) (a := ia) (n := x.props.length) (c := ic) (m := x.props.length + 12) _ rfl (by omega) hxp (Hd.arrT [_, _, _, _, _, _] [4, 0, 1, 2, 3, 5] (by decide) rfl H)) ?_)
            rintro _ w H
            refine WL.nil ?_
            refine WC.seq ?_
            have hVR2 := put_perm (x := x) hVR
            have hgg : sle (ofW w0) g2 := hg.trans (hg1.trans hg2)
            have hl2 : (putV V x).length ≤ i + 1 := by have := putV_len V x; omega
            have H := Hd.weak (Hd.arrT [_, _, _, _, _] [2, 0, 1, 3, 4] (by decide) rfl H) (BufP.monoH hg2)
            refine WC.region ?_
            refine l_rd rfl rfl (x_move h3) ?_
            refine l_rd rfl rfl (x_move h4) ?_
            refine l_rd rfl rfl (x_fieldAddr Try.underlying35 rfl rfl ty33 (by decide) rfl) ?_
            refine l_rd rfl rfl (x_loadF (vs := [_, _, _, _, _]) Try.underlying33 rfl ty33 rfl rfl (H.cellsL 4 rfl rfl)) ?_
            refine l_st rfl (s_callL cal18 (c18 (x := x) (fv := .slice pa0 x.props.length pc0) _ H hVR2 ⟨_, _, _, rfl⟩) ?_)
            rintro _ w ⟨rfl, H⟩
            refine l_rd rfl rfl (x_not rfl) ?_
            refine WL.nil ?_
            refine WC.cond0 rfl ?_
            refine WC.skip ?_
            refine WC.region ?_
            refine l_rd rfl rfl (x_move h5) ?_
            refine l_rd rfl rfl (x_addN (a := i) (b := 1) rfl rfl (by omega)) ?_
            refine l_rd rfl rfl (x_assign (by conv => lhs; whnf)) ?_
            refine WL.nil ?_
            exact ⟨rfl, ds.length - (i + 1), by omega, i + 1, B, R, g2, (putV V x), (putD rs x), rfl, by omega, hgg, hVR2, hl2, rfl, h3, h4, h0, Hd.arrT [_, _, _, _, _] [0, 1, 2] (by decide) rfl H⟩
    ·
      refine WL.nil ?_
      refine WC.cond0 rfl ?_
      refine WC.exit ?_
      refine WC.seq ?_
      refine WC.region ?_
      refine l_st rfl (s_callL cal5 (c5 _ (Hd.arrT [_, _, _] [2, 0, 1] (by decide) rfl H)) ?_)
      rintro _ w ⟨g9, hg9, rfl, H⟩
      refine l_rd rfl rfl (x_assign (by conv => lhs; whnf)) ?_
      refine WL.nil ?_
      refine WC.ret ?_
      refine atRet ?_
      exact RetM.one rfl (by (conv => lhs; whnf); try rfl) ⟨rfl, H.belowZ 0 rfl (hg.trans hg9)⟩

end Go.Proofs.Ytahdodijpmkddaa
