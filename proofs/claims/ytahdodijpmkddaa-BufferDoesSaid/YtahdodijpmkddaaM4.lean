/-
  What functions of this seat do: contracts, proved by walks, and the plain laws that they need; each with the conditions that it names.
-/
import Derived.Test.YtahdodijpmkddaaM3
import Derived.Test.YtahdodijpmkddaaE4
set_option linter.unusedVariables false
set_option linter.unusedSimpArgs false
namespace Go.Proofs.Ytahdodijpmkddaa
open Go Go.RowKit KE Go.Proofs
theorem cal27 : Cal Try.prog 27 := ⟨_, Try.func27, rfl, by decide⟩
theorem cal70 : Cal Try.prog 70 := ⟨_, Try.func70, rfl, by decide⟩
theorem cal71 : Cal Try.prog 71 := ⟨_, Try.func71, rfl, by decide⟩
theorem cal88 : Cal Try.prog 88 := ⟨_, Try.func88, rfl, by decide⟩
theorem cal94 : Cal Try.prog 94 := ⟨_, Try.func94, rfl, by decide⟩
theorem cal95 : Cal Try.prog 95 := ⟨_, Try.func95, rfl, by decide⟩

theorem head0 {xs : List It} : xs.headD (0, 0) = at_ xs 0 := by cases xs <;> rfl
def hLen (h : Nat) (w : World) : Nat := match w.heap[h]? with | some (Obj.cells cs _ _) => (match cs.toList with | Value.slice _ n _ :: _ => n | _ => 0) | _ => 0
theorem hLen_eq {w : World} {h : Nat} {xs : List It} (hr : HeapR w h xs) : hLen h w = xs.length := by
  obtain ⟨v, f, h1, h2⟩ := hr
  obtain ⟨a, c, rfl⟩ := h2.shape
  unfold hLen; rw [h1]
theorem c71 {s : Sy} {L : List Hp} {h n : Nat} {xs : List It} (w : World) (H : Hd s w (HeapP h xs :: L)) (hh : Heap xs) (hn : xs.length = n + 1) (hb : xs.length ≤ 1000000) : CC Try.prog 71 [.pointer (some ⟨h, 0, none⟩)].toArray w (fun r w' => ∃ ys, r = .tuple #[.agg (itC (at_ xs 0)).toArray, .bool true] ∧ Heap ys ∧ (at_ xs 0 :: ys).Perm xs ∧ Hd s w' (HeapP h ys :: L)) := by
  have hnk : xs[n]? = some (at_ xs n) := some_at (by omega)
  refine CC.of (N := 44) Try.func71 rfl rfl rfl ?_
  refine WC.seq ?_
  refine WC.region ?_
  refine l_st rfl (s_alloc ty69 H fun b2 w H => ?_)
  refine l_rd rfl rfl (x_assign ev_c) ?_
  refine WL.nil ?_
  refine WC.seq ?_
  refine WC.region ?_
  refine l_rd rfl rfl (x_move (by conv => lhs; whnf)) ?_
  refine l_st rfl (s_callL cal70 (c70 _ (HeapP.rd H 1 rfl)) ?_)
  rintro r w ⟨hr1, e1⟩
  have H := H.ext e1
  obtain rfl : r = .tuple #[.agg (itC (at_ xs 0)).toArray, .bool true] := hr1.trans (by rw [head0, decide_eq_true (show xs ≠ [] by rintro rfl; simp at hn)])
  refine l_rd rfl rfl (x_move (by conv => lhs; whnf)) ?_
  refine l_rd rfl rfl (x_extract rfl rfl) ?_
  refine l_rd rfl rfl (x_extract rfl rfl) ?_
  refine l_st rfl (s_alloc ty69 H fun b4 w H => ?_)
  refine l_no (s_stA 0 rfl ty69 rfl (by conv => lhs; whnf) rfl rfl rfl H fun w H => ?_)
  refine l_rd rfl rfl (x_assign (by conv => lhs; whnf)) ?_
  refine WL.nil ?_
  refine WC.seq ?_
  refine WC.seq ?_
  refine WC.region ?_
  refine l_rd rfl rfl (x_move (by conv => lhs; whnf)) ?_
  refine WL.nil ?_
  refine WC.cond1 rfl ?_
  refine WC.seq ?_
  have H := Hd.arrT [_, _, _] [2, 0, 1] (by decide) rfl H
  obtain ⟨v, H⟩ := HeapP.opn H
  obtain ⟨a, c, rfl⟩ := (H.sl 1 rfl).shape
  have hcap := (Hd.cap H 1 rfl).1
  obtain ⟨b1, o1, rfl, -⟩ := (show RdS w _ 2 itC xs from H.sl 1 rfl).el itC_len hnk
  have hq : ((xs.length : Nat) : Int) - 1 = (n : Int) := by omega
  refine WC.region ?_
  refine l_rd rfl rfl (x_move (by conv => lhs; whnf)) ?_
  refine l_rd rfl rfl (x_nilCheck rfl) ?_
  refine l_rd rfl rfl (x_fieldAddr Try.underlying78 rfl rfl ty76 (by decide) rfl) ?_
  refine l_rd rfl rfl (x_load Try.underlying76 rfl rfl (H.cellL 0 rfl rfl)) ?_
  refine l_rd rfl rfl (x_lenSlice Try.underlying76 rfl rfl) ?_
  refine l_rd rfl rfl (x_sub rfl rfl (by omega) (by omega)) ?_
  rw [hq]
  refine l_rd rfl rfl (x_assign (by conv => lhs; whnf)) ?_
  refine WL.nil ?_
  refine WC.seq ?_
  refine WC.draw mixed [12] [[], [0], [0, 1], [0, 1, 2], [], [4], [4, 5], [4, 5, 6], [], [4, 5, 6, 7, 8], [4, 5, 6, 7, 8, 9], [0, 1, 2, 3, 4, 5, 6, 7, 8, 9, 10], [0, 1, 2, 3, 4, 5, 6, 7, 8, 9, 10, 11]] [0, 1, 2, 3, 4, 5, 6, 7, 8, 9, 10, 11, 12] (by kernel_rfl) ?_
  have H := H.drew
  refine k_rd rfl rfl (RS.of rfl rfl (x_move (by conv => lhs; whnf))) ?_
  refine k_rd rfl rfl (RS.of rfl rfl (x_nilCheck rfl)) ?_
  refine k_rd rfl rfl (RS.of rfl rfl (x_fieldAddr Try.underlying78 rfl rfl ty76 (by decide) rfl)) ?_
  refine k_rd rfl rfl (RS.of rfl rfl (x_load Try.underlying76 rfl rfl (H.cellL 0 rfl rfl))) ?_
  refine k_rd rfl rfl (RS.of rfl rfl (x_move (by conv => lhs; whnf))) ?_
  refine k_rd rfl rfl (RS.of rfl rfl (x_nilCheck rfl)) ?_
  refine k_rd rfl rfl (RS.of rfl rfl (x_fieldAddr Try.underlying78 rfl rfl ty76 (by decide) rfl)) ?_
  refine k_rd rfl rfl (RS.of rfl rfl (x_load Try.underlying76 rfl rfl (H.cellL 0 rfl rfl))) ?_
  refine k_rd rfl rfl (RS.of rfl rfl (x_move (by conv => lhs; whnf))) ?_
  refine k_rd rfl rfl (RS.of rfl rfl (x_indexAddr Try.underlying76 ty69 rfl rfl (by omega) (by omega))) ?_
  refine k_rd rfl rfl (RS.of rfl rfl (x_loadF (vs := [_, _]) Try.underlying69 rfl ty69 rfl rfl (sub_row 0 (RdS.at itC_len (show RdS _ _ 2 itC xs from H.sl 1 rfl) hnk) rfl))) ?_
  refine k_rd rfl rfl (RS.of rfl rfl (x_indexAddr Try.underlying76 ty69 rfl rfl (by omega) (by omega))) ?_
  refine k_no rfl rfl rfl (s_storeRowF (b := b1) (o := o1) (c := c) (k := 0) (y := at_ xs n) 1 itC_len rfl rfl (by omega) rfl ty69 (by rw [Nat.zero_mul]; rfl) (by conv => lhs; whnf) rfl H (fun w H => ⟨⟨trivial, ⟨trivial, ⟨trivial, ⟨trivial, ⟨trivial, ⟨trivial, ⟨trivial, ⟨trivial, ⟨trivial, ⟨trivial, ⟨trivial, ⟨trivial, trivial⟩⟩⟩⟩⟩⟩⟩⟩⟩⟩⟩⟩, ?_⟩))
  show _
  refine WC.seq ?_
  refine WC.region ?_
  refine l_rd rfl rfl (x_move (by conv => lhs; whnf)) ?_
  refine l_rd rfl rfl (x_move (by conv => lhs; whnf)) ?_
  refine l_rd rfl rfl (x_nilCheck rfl) ?_
  refine l_rd rfl rfl (x_fieldAddr Try.underlying78 rfl rfl ty76 (by decide) rfl) ?_
  refine l_rd rfl rfl (x_load Try.underlying76 rfl rfl (H.cellL 0 rfl rfl)) ?_
  refine l_rd rfl rfl (x_move (by conv => lhs; whnf)) ?_
  refine l_rd rfl rfl (x_sliceTo Try.underlying76 ty69 rfl rfl (by omega) (by omega)) ?_
  refine l_rd rfl rfl (x_nilCheck rfl) ?_
  refine l_rd rfl rfl (x_fieldAddr Try.underlying78 rfl rfl ty76 (by decide) rfl) ?_
  refine l_no (s_st 0 rfl ty76 rfl (by conv => lhs; whnf) rfl rfl H fun w H => ?_)
  refine WL.nil ?_
  have H := HeapP.mk (xs := (xs.set 0 (at_ xs n)).take n) (by
    have H := Hd.shrink (m := n) (Hd.swp H) (by omega)
    rw [flat_take itC_len] at H
    have e : ((xs.set 0 (at_ xs n)).take n).length = n := by simp; omega
    rw [e]
    exact H.swp)
  refine WC.region ?_
  refine l_rd rfl rfl (x_move (by conv => lhs; whnf)) ?_
  refine l_st rfl (s_callL cal88 (c88 _ H (pop_pre hh hn).1 (by simp; omega)) ?_)
  rintro _ w ⟨ys, hH, hP, H⟩
  refine WL.nil ?_
  refine WC.seq ?_
  refine WC.region ?_
  refine l_rd rfl rfl (x_loadF (vs := [_, _]) Try.underlying69 rfl ty69 rfl rfl (H.cellsL 1 rfl rfl)) ?_
  refine l_rd rfl rfl (x_move (by conv => lhs; whnf)) ?_
  refine l_no (s_stA 2 rfl ty69 rfl (by conv => lhs; whnf) rfl rfl rfl H fun w H => ?_)
  refine l_rd rfl rfl (x_assign (by conv => lhs; whnf)) ?_
  refine WL.nil ?_
  refine WC.ret ?_
  refine atRet ?_
  exact RetM.cellAT (vs := [_, _]) rfl (by (conv => lhs; whnf); try rfl) (by (conv => lhs; whnf); try rfl) Try.underlying69 rfl ty69 rfl (H.cellsL 2 rfl rfl) (⟨ys, rfl, hH, (hP.cons _).trans (pop_pre hh hn).2, Hd.arrT [_, _, _] [0] (by decide) rfl H⟩)

theorem c94 {s : Sy} {L : List Hp} {hv : Value} {key : Int} (w : World) (H : Hd s w L) (h1 : hv.cells = #[hv]) : CC Try.prog 94 [hv, I key].toArray w (fun r w' => ∃ b1 b2 : Nat, r = .func (.func 95) #[] #[.pointer (some ⟨b1, 0, none⟩), .pointer (some ⟨b2, 0, none⟩)] ∧ Hd s w' (pt b1 (.cells #[hv] 50 (0, 0)) :: pt b2 (.cells #[I key] 3 (0, 0)) :: L)) := by
  refine CC.of (N := 6) Try.func94 rfl rfl rfl ?_
  refine WC.seq ?_
  refine WC.region ?_
  refine l_st rfl (s_box (by conv => lhs; whnf) H fun b2 w H => ?_)
  refine l_st rfl (s_box (by conv => lhs; whnf) H fun b3 w H => ?_)
  refine l_rd rfl rfl (x_assign ev_c) ?_
  refine WL.nil ?_
  refine WC.seq ?_
  refine WC.region ?_
  refine l_rd rfl rfl (x_makeFuncL) ?_
  refine l_rd rfl rfl (x_assign (by conv => lhs; whnf)) ?_
  refine WL.nil ?_
  refine WC.ret ?_
  refine atRet ?_
  exact RetM.one rfl (by (conv => lhs; whnf); try rfl) (⟨_, _, rfl, by rw [h1] at H; exact H.swp⟩)

theorem it95 {s : Sy} {h bx1 bx2 : Nat} {key : Int} {xs zs : List It} (hh : Heap xs) (hz : Srt zs) (hp : zs.Perm xs) (hk : ∀ p ∈ xs, p.1 ≤ key) (hb : xs.length ≤ 1000000) : IT Try.prog s 95 [.pointer (some ⟨bx1, 0, none⟩), .pointer (some ⟨bx2, 0, none⟩)] (fun (p : It) vs => fun _ => vs = [.agg (itC p).toArray]) zs (star (pt bx1 (.cells #[.pointer (some ⟨h, 0, none⟩)] 50 (0, 0))) (star (pt bx2 (.cells #[I key] 3 (0, 0))) (HeapP h xs))) (fun _ => fun _ => True) := by
  intro l J X w L hy H
  have H := Hd.unstarAt [_, _] (Hd.unstarAt [_] H)
  refine CC.of (N := 30) Try.func95 rfl rfl rfl ?_
  refine WC.seq ?_
  refine WC.region ?_
  refine l_rd rfl rfl (x_load Try.underlying50 rfl rfl (H.cellL 1 rfl rfl)) ?_
  refine l_st rfl (s_callL cal70 (c70 _ (HeapP.rd H 3 rfl)) ?_)
  rintro _ w ⟨rfl, e1⟩
  have H := H.ext e1
  refine l_rd rfl rfl (x_move (by conv => lhs; whnf)) ?_
  refine l_rd rfl rfl (x_extract rfl rfl) ?_
  refine l_rd rfl rfl (x_extract rfl rfl) ?_
  refine l_st rfl (s_alloc ty69 H fun b4 w H => ?_)
  refine l_no (s_stA 0 rfl ty69 rfl (by conv => lhs; whnf) rfl rfl rfl H fun w H => ?_)
  refine l_rd rfl rfl (x_assign (by conv => lhs; whnf)) ?_
  refine WL.nil ?_
  refine WC.block ?_
  refine WC.loop (fun ρ ds w => ∃ (pre rest ys : List It) (b4 : Nat), zs = pre ++ rest ∧ ys.Perm rest ∧ Heap ys ∧ ρ 4 = .pointer (some ⟨b4, 0, none⟩) ∧ ρ 5 = .bool (decide (ys ≠ [])) ∧ ρ 0 = .func (.yield l) #[] #[] ∧ ρ 1 = .pointer (some ⟨bx1, 0, none⟩) ∧ ρ 2 = .pointer (some ⟨bx2, 0, none⟩) ∧ ds = [] ∧ Hd s w (pt b4 (.cells #[I (ys.headD (0, 0)).1, I (ys.headD (0, 0)).2] 69 (0, 0)) :: J pre :: pt bx1 (.cells #[.pointer (some ⟨h, 0, none⟩)] 50 (0, 0)) :: pt bx2 (.cells #[I key] 3 (0, 0)) :: HeapP h ys :: L)) (fun ρ w => hLen h w) (⟨[], zs, xs, _, rfl, hp.symm, hh, rfl, rfl, rfl, rfl, rfl, rfl, H⟩) ?_
  repeat clear H
  rintro ρ ds w ⟨pre, rest, ys, b4, hs, hP, hH, h4, h5, h0, h1, h2, rfl, H⟩
  refine WC.seq ?_
  refine WC.seq ?_
  have hμ := hLen_eq (HeapP.rd H 4 rfl)
  rcases rest with _ | ⟨z, rest⟩
  ·
    obtain rfl := List.perm_nil.1 hP.symm.symm
    have h5 : ρ 5 = .bool false := h5.trans (by simp)
    refine WC.region ?_
    refine l_rd rfl rfl (x_move h5) ?_
    refine l_rd rfl rfl (x_move (by conv => lhs; whnf)) ?_
    refine l_gn (wantN rfl rfl rfl) rfl ?_
    refine l_gn (wantN rfl rfl rfl) rfl ?_
    refine l_gn (wantN rfl rfl rfl) rfl ?_
    refine l_gn (wantN rfl rfl rfl) rfl ?_
    refine l_rd rfl rfl (x_pick0 rfl ev_c) ?_
    refine WL.nil ?_
    refine WC.cond0 rfl ?_
    refine WC.exit ?_
    refine atEnd ?_
    exact RetM.none' rfl (.inl (by rw [List.append_nil] at hs; subst hs; exact (Hd.pure trivial (Hd.arrT [_, _, _, _, _] [1] (by decide) rfl H)).swp))
  ·
    have hne : ys ≠ [] := by rintro rfl; simpa using hP.length_eq
    have h5 : ρ 5 = .bool true := by rw [h5, decide_eq_true hne]
    have hz0 := srt_head (List.pairwise_append.1 (hs ▸ hz)).2.1 hH hP
    have hln := hP.length_eq
    have hlen := hp.length_eq
    have hll := congrArg List.length hs
    simp only [List.length_append, List.length_cons] at hln hll
    rw [head0, hz0] at H
    refine WC.region ?_
    refine l_rd rfl rfl (x_move h5) ?_
    refine l_rd rfl rfl (x_move (by conv => lhs; whnf)) ?_
    refine l_gy (wantY rfl rfl rfl) rfl rfl (x_fieldAddr Try.underlying69 rfl rfl ty3 (by decide) h4) ?_
    refine l_gy (wantY rfl rfl rfl) rfl rfl (x_load Try.underlying3 rfl rfl (H.cellL 0 rfl rfl)) ?_
    refine l_gy (wantY rfl rfl rfl) rfl rfl (x_load Try.underlying3 rfl h2 (H.cellL 3 rfl rfl)) ?_
    refine l_gyD (wantY rfl rfl rfl) rfl rfl (x_leq rfl rfl) (fun h16 => ?_) (fun h16 => ?_)
    ·
      refine l_rd rfl rfl (x_pick1 rfl (by conv => lhs; whnf)) ?_
      refine WL.nil ?_
      refine WC.cond1 rfl ?_
      refine WC.skip ?_
      refine WC.seq ?_
      refine WC.block ?_
      refine WC.seq ?_
      refine WC.region ?_
      refine l_rd rfl rfl (x_load Try.underlying50 rfl h1 (H.cellL 2 rfl rfl)) ?_
      refine l_st rfl (s_callL cal71 (c71 (n := rest.length) _ (H.pick 4 rfl) hH hln (by omega)) ?_)
      rintro _ w ⟨ys2, rfl, hH2, hP2, H⟩
      have hP3 : ys2.Perm rest := by rw [hz0] at hP2; exact (List.perm_cons z).1 (hP2.trans hP)
      refine WL.nil ?_
      refine WC.seq ?_
      refine WC.region ?_
      refine l_rd rfl rfl (x_move h0) ?_
      refine l_rd rfl rfl (x_loadF (vs := [_, _]) Try.underlying69 rfl ty69 h4 rfl (H.cellsL 1 rfl rfl)) ?_
      refine l_st rfl (s_yieldL rfl (hy pre z rest [.agg (itC z).toArray] _ _ hs ((Hd.pure rfl H).pick 3 rfl)) ?_)
      rintro v w (⟨rfl, H⟩ | ⟨rfl, H⟩)
      ·
        have H := Hd.arrT [_, _, _, _, _] [2, 0, 3, 4, 1] (by decide) rfl H
        refine l_rd rfl rfl (x_not rfl) ?_
        refine WL.nil ?_
        refine WC.cond0 rfl ?_
        refine WC.skip ?_
        refine WC.seq ?_
        refine WC.seq ?_
        refine WC.region ?_
        refine l_rd rfl rfl (x_loadF (vs := [_, _]) Try.underlying69 rfl ty69 h4 rfl (H.cellsL 0 rfl rfl)) ?_
        refine WL.nil ?_
        refine WC.region ?_
        refine l_st rfl (s_alloc ty69 H fun b4 w H => ?_)
        refine l_no (s_stA 0 rfl ty69 rfl (by conv => lhs; whnf) rfl rfl rfl H fun w H => ?_)
        refine WL.nil ?_
        refine WC.region ?_
        refine l_rd rfl rfl (x_load Try.underlying50 rfl h1 (H.cellL 3 rfl rfl)) ?_
        refine l_st rfl (s_callL cal70 (c70 _ (HeapP.rd H 5 rfl)) ?_)
        rintro _ w ⟨rfl, e1⟩
        have H := H.ext e1
        refine l_rd rfl rfl (x_move (by conv => lhs; whnf)) ?_
        refine l_rd rfl rfl (x_extract rfl rfl) ?_
        refine l_rd rfl rfl (x_extract rfl rfl) ?_
        refine l_no (s_stA 0 rfl ty69 rfl (by conv => lhs; whnf) rfl rfl rfl H fun w H => ?_)
        refine l_rd rfl rfl (x_assign (by conv => lhs; whnf)) ?_
        refine WL.nil ?_
        refine WC.again (⟨pre ++ [z], rest, ys2, _, by rw [hs, List.append_assoc]; rfl, hP3, hH2, rfl, rfl, h0, h1, h2, rfl, Hd.dropAt [_] H⟩) (by rw [hμ, hLen_eq (HeapP.rd H 5 rfl), hP3.length_eq]; omega)
      ·
        refine l_rd rfl rfl (x_not rfl) ?_
        refine WL.nil ?_
        refine WC.cond1 rfl ?_
        refine WC.ret ?_
        refine atRet ?_
        exact RetM.none' rfl (.inr ⟨pre, z, rest, hs, (Hd.pure trivial (Hd.arrT [_, _, _, _, _] [0] (by decide) rfl H)).swp⟩)
    ·
      exact absurd (hk z (hp.mem_iff.1 (by rw [hs]; simp))) h16

theorem c86 {s : Sy} {L : List Hp} {h : Nat} {xs zs : List It} (w : World) (H : Hd s w (HeapP h xs :: L)) (hh : Heap xs) (hz : Srt zs) (hp : zs.Perm xs) (hk : ∀ p ∈ xs, p.1 ≤ 9223372036854775807) (hb : xs.length ≤ 1000000) : CC Try.prog 86 [.pointer (some ⟨h, 0, none⟩)].toArray w (fun r w' => Hd s w' (Sl r 69 2 zs.length (zs.flatMap itC) :: HeapP h xs :: L)) := by
  refine CC.of (N := 13) Try.func86 rfl rfl rfl ?_
  refine WC.seq ?_
  refine WC.region ?_
  refine l_st rfl (s_alloc ty76 H fun b2 w H => ?_)
  refine WL.nil ?_
  refine WC.seq ?_
  refine WC.seq ?_
  refine WC.region ?_
  refine l_rd rfl rfl (x_move (by conv => lhs; whnf)) ?_
  refine l_st rfl (s_callL cal27 (c27 _ (H.pick 1 rfl) hb) ?_)
  rintro _ w ⟨h2, rfl, H⟩
  refine l_st rfl (s_callL cal94 (c94 _ H rfl) ?_)
  rintro _ w ⟨x1, x2, rfl, H⟩
  refine WL.nil ?_
  refine WC.block ?_
  have H := Hd.starAt [_] (Hd.starAt [_, _] (outI.mk (f := itC) (pre := []) (Hd.nil (Hd.arrT [_, _, _, _, _] [4, 0, 1, 2, 3] (by decide) rfl H) 69 2).swp))
  refine WC.rangeFn (P := Try.prog) (caps := [.pointer (some ⟨x1, 0, none⟩), .pointer (some ⟨x2, 0, none⟩)]) (E := fun (p : It) vs => fun _ => vs = [.agg (itC p).toArray]) (xs := zs) (A := star (pt x1 (.cells #[.pointer (some ⟨h2, 0, none⟩)] 50 (0, 0))) (star (pt x2 (.cells #[I 9223372036854775807] 3 (0, 0))) (HeapP h2 xs))) (B := fun _ => fun _ => True) (I := outI b2 76 69 2 itC) (X := fun _ _ => fun _ => False) (L := HeapP h xs :: L) rfl cal95 (by decide) (fun x vs h hv => by have : vs = _ := hv; rw [this]; rfl) (it95 hh hz hp hk hb) H ?_ ?_ ?_
  ·
    intro l pre x rest vs w L' L2 hxs hrec H
    obtain ⟨hh, _, hvs⟩ := H.fact_at 1 rfl
    have hvs : vs = [.agg (itC x).toArray] := hvs
    subst hvs
    refine WC.region ?_
    refine l_st rfl (s_alloc ty69 H fun b3 w H => ?_)
    refine l_no (s_stA 0 rfl ty69 rfl (by conv => lhs; whnf) rfl rfl rfl H fun w H => ?_)
    refine WL.nil ?_
    refine ⟨⟨[_, _, _], H⟩, fun w2 hw2 => ?_⟩
    clear hrec
    have H := Hd.arrT [_, _, _] [1, 0] (by decide) rfl (hw2 [_, _, _] H)
    clear hw2
    obtain ⟨mv, H⟩ := outI.opn H
    obtain ⟨am, cm, rfl⟩ := (H.sl 1 rfl).shape
    have hpl : pre.length + 1 ≤ 1000000 := by have := congrArg List.length hxs; simp only [List.length_append, List.length_cons] at this; have := hp.length_eq; omega
    refine WC.block ?_
    refine WC.region ?_
    refine l_rd rfl rfl (x_load Try.underlying76 rfl rfl (H.cellL 0 rfl rfl)) ?_
    refine l_rd rfl rfl (x_loadF (vs := [_, _]) Try.underlying69 rfl ty69 rfl rfl (H.cellsL 2 rfl rfl)) ?_
    refine l_st rfl (s_build1A Try.underlying76 ty69 rfl (by decide) (by decide) (by conv => lhs; whnf) rfl H fun b10 w H => ?_)
    refine l_st rfl (s_append Try.underlying76 ty69 rfl (by decide) (by decide) rfl 2 rfl rfl rfl (H.sl 0 rfl) (by simp [Value.oneCell']) (by omega) H fun v11 w H => ?_)
    obtain ⟨a11, c11, rfl⟩ := (H.sl 2 rfl).shape
    refine l_no (s_st 1 rfl ty76 rfl (by conv => lhs; whnf) rfl rfl H fun w H => ?_)
    refine WL.nil ?_
    exact outI.mk (by rw [List.length_append, List.flatMap_append]; exact Hd.arrT [_, _, _, _] [1, 2] (by decide) rfl H)
  ·
    intro w m H
    have H := Hd.dropAt [_] H
    obtain ⟨mv, H⟩ := outI.opn H
    obtain ⟨am, cm, rfl⟩ := (H.sl 1 rfl).shape
    refine WC.seq ?_
    refine WC.region ?_
    refine l_rd rfl rfl (x_load Try.underlying76 rfl rfl (H.cellL 0 rfl rfl)) ?_
    refine l_no (s_st 0 rfl ty76 rfl (by conv => lhs; whnf) rfl rfl H fun w H => ?_)
    refine WL.nil ?_
    refine WC.ret ?_
    refine atRet ?_
    refine RetM.mark H (i := 2) rfl (fun w H => ?_)
    exact RetM.cell1 rfl (by (conv => lhs; whnf); try rfl) Try.underlying76 rfl (H.cellL 0 rfl rfl) (Hd.arrT [_, _, _, _] [1, 3] (by decide) rfl H)
  ·
    intro w m c pre x rest hxs H
    obtain ⟨hh, _, hF⟩ := H.fact_at 0 rfl
    exact hF.elim

end Go.Proofs.Ytahdodijpmkddaa
set_option linter.unusedVariables false
set_option linter.unusedSimpArgs false
namespace Go.Proofs.Ytahdodijpmkddaa
open Go Go.RowKit KE Go.Proofs

theorem ins_cells {es : List Ed} {e : Ed} {k : Nat} : (es.take k ++ e :: es.drop k).flatMap edC = (es.flatMap edC).take (k * 5) ++ edC e ++ (es.flatMap edC).drop (k * 5) := by
  rw [flat_take edC_len, flat_drop edC_len, List.flatMap_append, List.flatMap_cons, List.append_assoc]
theorem one_flat {es : List Ed} (h1 : ∀ x ∈ es, oneC x.pv = true) : ∀ u ∈ es.flatMap edC, oneC u = true := by
  intro u hu
  obtain ⟨x, hx, hm⟩ := List.mem_flatMap.1 hu
  exact edC_one x (h1 x hx) u hm
theorem one_drop {e : Ed} {es : List Ed} {n : Nat} (h1 : ∀ x ∈ e :: es, oneC x.pv = true) : ∀ u ∈ (es.flatMap edC).drop n, oneC u = true := fun u hu => one_flat (fun x hx => h1 x (List.mem_cons_of_mem _ hx)) u (List.mem_of_mem_drop hu)
theorem c33 {s : Sy} {L : List Hp} {k : Nat} {v xv : Value} {es : List Ed} {e : Ed} (w : World) (H : Hd s w (Sl xv 33 5 1 (edC e) :: Sl v 33 5 es.length (es.flatMap edC) :: L)) (hk : k ≤ es.length) (hb : es.length ≤ 100000) (h1 : ∀ x ∈ e :: es, oneC x.pv = true) : CC Try.prog 33 [v, I k, xv].toArray w (fun r w' => Hd s w' (Sl r 33 5 (es.length + 1) ((es.take k ++ e :: es.drop k).flatMap edC) :: L)) := by
  obtain ⟨a, c, rfl⟩ := (H.sl 1 rfl).shape
  have hcap := (Hd.cap H 1 rfl).1
  obtain ⟨bx, ox, cx, rfl, -⟩ := (H.sl 0 rfl).at_ (show 0 < 1 by decide)
  refine CC.of (N := 95) Try.func33 rfl rfl rfl ?_
  refine WC.seq ?_
  refine WC.region ?_
  refine l_rd rfl rfl (x_assign ev_c) ?_
  refine WL.nil ?_
  refine WC.seq ?_
  refine WC.region ?_
  refine l_rd rfl rfl (x_move (by conv => lhs; whnf)) ?_
  refine l_rd rfl rfl (x_move (by conv => lhs; whnf)) ?_
  refine l_rd rfl rfl (x_sliceFromA (i := k) Try.underlying28 ty33 rfl rfl (by omega) (by omega)) ?_
  refine WL.nil ?_
  refine WC.seq ?_
  refine WC.region ?_
  refine l_rd rfl rfl (x_move (by conv => lhs; whnf)) ?_
  refine l_rd rfl rfl (x_lenSlice Try.underlying28 rfl rfl) ?_
  refine l_rd rfl rfl (x_assign (by conv => lhs; whnf)) ?_
  refine WL.nil ?_
  refine WC.seq ?_
  refine WC.seq ?_
  refine WC.region ?_
  refine l_rd rfl rfl (x_move (by conv => lhs; whnf)) ?_
  refine l_rdD rfl rfl (x_eql rfl rfl) (fun h16 => ?_) (fun h16 => ?_)
  ·
    exact absurd h16 (by decide)
  ·
    refine WL.nil ?_
    refine WC.cond0 rfl ?_
    refine WC.skip ?_
    refine WC.seq ?_
    refine WC.region ?_
    refine l_rd rfl rfl (x_move (by conv => lhs; whnf)) ?_
    refine l_rd rfl rfl (x_lenSlice Try.underlying28 rfl rfl) ?_
    refine l_rd rfl rfl (x_assign (by conv => lhs; whnf)) ?_
    refine WL.nil ?_
    refine WC.seq ?_
    refine WC.seq ?_
    refine WC.region ?_
    refine l_rd rfl rfl (x_move (by conv => lhs; whnf)) ?_
    refine l_rd rfl rfl (x_move (by conv => lhs; whnf)) ?_
    refine l_rdD rfl rfl (x_eql rfl rfl) (fun h22 => ?_) (fun h22 => ?_)
    ·
      refine WL.nil ?_
      refine WC.cond1 rfl ?_
      refine WC.seq ?_
      refine WC.region ?_
      refine l_rd rfl rfl (x_move (by conv => lhs; whnf)) ?_
      refine l_rd rfl rfl (x_move (by conv => lhs; whnf)) ?_
      refine l_st rfl (s_append Try.underlying28 ty33 rfl (by decide) (by decide) rfl 1 rfl rfl rfl (H.sl 0 rfl) (edC_one e (h1 e List.mem_cons_self)) (by omega) H fun v25 w H => ?_)
      obtain ⟨a25, c25, rfl⟩ := (H.sl 1 rfl).shape
      refine l_rd rfl rfl (x_assign (by conv => lhs; whnf)) ?_
      refine WL.nil ?_
      refine WC.ret ?_
      refine atRet ?_
      exact RetM.one rfl (by (conv => lhs; whnf); try rfl) (by obtain rfl : k = es.length := (by omega); rw [ins_cells, ← flat_len edC_len es, List.take_length, List.drop_length, List.append_nil]; exact H.drop)
    ·
      refine WL.nil ?_
      refine WC.cond0 rfl ?_
      refine WC.skip ?_
      refine WC.seq ?_
      refine WC.seq ?_
      obtain ⟨b1, o1, c1, hv, -⟩ := (H.sl 1 rfl).at_ (show k < es.length by omega)
      cases hv
      have hfl : (es.flatMap edC).length = es.length * 5 := flat_len edC_len es
      refine WC.region ?_
      refine l_rd rfl rfl (x_move (by conv => lhs; whnf)) ?_
      refine l_rd rfl rfl (x_move (by conv => lhs; whnf)) ?_
      refine l_rd rfl rfl (x_addN (a := es.length) (b := 1) rfl rfl (by omega)) ?_
      refine l_rd rfl rfl (x_move (by conv => lhs; whnf)) ?_
      refine l_rd rfl rfl (x_cap Try.underlying28 rfl rfl) ?_
      refine l_rdD rfl rfl (x_gtr rfl rfl) (fun h31 => ?_) (fun h31 => ?_)
      ·
        refine WL.nil ?_
        refine WC.cond1 rfl ?_
        refine WC.seq ?_
        refine WC.region ?_
        refine l_rd rfl rfl (x_move (by conv => lhs; whnf)) ?_
        refine l_rd rfl rfl (x_move (by conv => lhs; whnf)) ?_
        refine l_rd rfl rfl (x_sliceToN (i := k) Try.underlying28 ty33 rfl rfl (by omega)) ?_
        refine l_rd rfl rfl (x_move (by conv => lhs; whnf)) ?_
        refine l_rd rfl rfl (x_move (by conv => lhs; whnf)) ?_
        refine l_rd rfl rfl (x_addN (a := es.length) (b := 1) rfl rfl (by omega)) ?_
        refine l_rd rfl rfl (x_move (by conv => lhs; whnf)) ?_
        refine l_rd rfl rfl (x_subN (a := es.length + 1) (b := k) rfl rfl (by omega) (by omega)) ?_
        refine l_st rfl (s_appendMake (n := k) (k := es.length + 1 - k) (cs := (es.flatMap edC).take (k * 5)) Try.underlying28 Try.underlying3 ty33 rfl (by decide) (by decide) rfl rfl ((show RdC w _ 5 es.length (es.flatMap edC) from H.sl 1 rfl).pre k c (by omega)) rfl (by omega) (by omega) (by omega) H (fun b9 c9 w cs9 hl9 ht9 hc9 H => ?_))
        have hkn : k + (es.length + 1 - k) = es.length + 1 := by omega
        rw [hkn] at hl9 hc9 H ⊢
        refine l_rd rfl rfl (x_assign (by conv => lhs; whnf)) ?_
        refine WL.nil ?_
        refine WC.seq ?_
        refine WC.region ?_
        refine l_rd rfl rfl (x_move (by conv => lhs; whnf)) ?_
        refine l_rd rfl rfl (x_move (by conv => lhs; whnf)) ?_
        refine l_rd rfl rfl (x_sliceFromLt (i := k) Try.underlying28 ty33 rfl rfl (by omega) (by omega) (by omega)) ?_
        refine l_rd rfl rfl (x_move (by conv => lhs; whnf)) ?_
        refine l_st rfl (s_copy Try.underlying28 ty33 rfl 0 (k := k) (m := 1) rfl rfl rfl rfl (H.sl 1 rfl) (edC_one e (h1 e List.mem_cons_self)) (by omega) (by omega) H (fun w H => ?_))
        refine WL.nil ?_
        refine WC.seq ?_
        refine WC.draw mixed [8] [[], [], [], [1, 2], [0, 1, 2, 3], [], [], [5, 6], [0, 1, 2, 3, 4, 5, 6, 7]] [0, 1, 2, 3, 4, 5, 6, 7, 8] (by kernel_rfl) ?_
        have H := H.drew
        refine k_rd rfl rfl (RS.of rfl rfl (x_move (by conv => lhs; whnf))) ?_
        refine k_rd rfl rfl (RS.of rfl rfl (x_move (by conv => lhs; whnf))) ?_
        refine k_rd rfl rfl (RS.of rfl rfl (x_move (by conv => lhs; whnf))) ?_
        refine k_rd rfl rfl (RS.of rfl rfl (x_addN (a := k) (b := 1) rfl rfl (by omega))) ?_
        refine k_rd rfl rfl (RS.of rfl rfl (x_sliceFromLt (i := k + 1) Try.underlying28 ty33 rfl rfl (by omega) (by omega) (by omega))) ?_
        refine k_rd rfl rfl (RS.of rfl rfl (x_move (by conv => lhs; whnf))) ?_
        refine k_rd rfl rfl (RS.of rfl rfl (x_move (by conv => lhs; whnf))) ?_
        refine k_rd rfl rfl (RS.of rfl rfl (x_sliceFromLt (i := k) Try.underlying28 ty33 rfl rfl (by omega) (by omega) (by omega))) ?_
        refine k_st rfl rfl rfl (s_copy Try.underlying28 ty33 rfl 0 (k := k + 1) (m := es.length - k) rfl rfl rfl rfl ((show RdC w _ 5 es.length (es.flatMap edC) from H.sl 2 rfl).from k (c - k) (by omega)) (one_drop h1) (by omega) (by omega) H (fun w H => ⟨⟨trivial, ⟨trivial, ⟨trivial, ⟨trivial, ⟨trivial, ⟨trivial, ⟨trivial, ⟨trivial, trivial⟩⟩⟩⟩⟩⟩⟩⟩, ?_⟩))
        show _
        refine WC.seq ?_
        refine WC.region ?_
        refine l_rd rfl rfl (x_move (by conv => lhs; whnf)) ?_
        refine l_rd rfl rfl (x_assign (by conv => lhs; whnf)) ?_
        refine WL.nil ?_
        refine WC.ret ?_
        refine atRet ?_
        exact RetM.one rfl (by (conv => lhs; whnf); try rfl) (by have H := Hd.arrT [_, _, _] [0] (by decide) rfl H; rw [show (k + 1) * 5 = k * 5 + 5 by omega, show (es.length - k) * 5 = es.length * 5 - k * 5 by omega, Nat.one_mul, ins_grow (N := es.length * 5) (E := es.flatMap edC) (X := edC e) (z := 5) (by omega) ht9 hfl (by omega) rfl, ← ins_cells] at H; exact H)
      ·
        refine WL.nil ?_
        refine WC.cond0 rfl ?_
        refine WC.skip ?_
        refine WC.seq ?_
        refine WC.region ?_
        refine l_rd rfl rfl (x_move (by conv => lhs; whnf)) ?_
        refine l_rd rfl rfl (x_move (by conv => lhs; whnf)) ?_
        refine l_rd rfl rfl (x_move (by conv => lhs; whnf)) ?_
        refine l_rd rfl rfl (x_addN (a := es.length) (b := 1) rfl rfl (by omega)) ?_
        refine l_rd rfl rfl (x_sliceToN (i := es.length + 1) Try.underlying28 ty33 rfl rfl (by omega)) ?_
        refine l_rd rfl rfl (x_assign (by conv => lhs; whnf)) ?_
        refine WL.nil ?_
        refine WC.seq ?_
        refine WC.seq ?_
        obtain ⟨cs9, hl9, ht9, H⟩ := Hd.grow2 (m := es.length + 1) H.swp (by omega) (by omega) (by omega)
        have H := H.swp
        have hdt : (cs9.drop (k * 5)).take ((es.length - k) * 5) = (es.flatMap edC).drop (k * 5) := by rw [← ht9, List.drop_take, Nat.sub_mul]
        refine WC.region ?_
        refine l_rd rfl rfl (x_move (by conv => lhs; whnf)) ?_
        refine l_rd rfl rfl (x_move (by conv => lhs; whnf)) ?_
        refine l_rd rfl rfl (x_move (by conv => lhs; whnf)) ?_
        refine l_rd rfl rfl (x_move (by conv => lhs; whnf)) ?_
        refine l_rd rfl rfl (x_addN (a := k) (b := 1) rfl rfl (by omega)) ?_
        refine l_rd rfl rfl (x_sliceFromLt (i := k + 1) Try.underlying28 ty33 rfl rfl (by omega) (by omega) (by omega)) ?_
        refine l_st rfl (s_callXL (run_ov (tR := 4) (fn := Try.f60) Try.func60 (by kernel_rfl) (by kernel_rfl) (by kernel_rfl) (by kernel_rfl) Try.underlying28 ty33 (by decide) (by omega) H) ?_)
        refine l_rd rfl rfl (x_not rfl) ?_
        refine WL.nil ?_
        refine WC.cond1 rfl ?_
        refine WC.seq ?_
        refine WC.draw mixed [8] [[], [], [], [1, 2], [0, 1, 2, 3], [], [], [5, 6], [0, 1, 2, 3, 4, 5, 6, 7]] [0, 1, 2, 3, 4, 5, 6, 7, 8] (by kernel_rfl) ?_
        have H := H.drew
        refine k_rd rfl rfl (RS.of rfl rfl (x_move (by conv => lhs; whnf))) ?_
        refine k_rd rfl rfl (RS.of rfl rfl (x_move (by conv => lhs; whnf))) ?_
        refine k_rd rfl rfl (RS.of rfl rfl (x_move (by conv => lhs; whnf))) ?_
        refine k_rd rfl rfl (RS.of rfl rfl (x_addN (a := k) (b := 1) rfl rfl (by omega))) ?_
        refine k_rd rfl rfl (RS.of rfl rfl (x_sliceFromLt (i := k + 1) Try.underlying28 ty33 rfl rfl (by omega) (by omega) (by omega))) ?_
        refine k_rd rfl rfl (RS.of rfl rfl (x_move (by conv => lhs; whnf))) ?_
        refine k_rd rfl rfl (RS.of rfl rfl (x_move (by conv => lhs; whnf))) ?_
        refine k_rd rfl rfl (RS.of rfl rfl (x_sliceFromLt (i := k) Try.underlying28 ty33 rfl rfl (by omega) (by omega) (by omega))) ?_
        refine k_st rfl rfl rfl (s_copy Try.underlying28 ty33 rfl 1 (k := k + 1) (m := es.length - k) rfl rfl rfl rfl ((show RdC w _ 5 (es.length + 1) cs9 from H.sl 1 rfl).sub k (es.length - k) (c - k) (by omega)) (by rw [hdt]; exact one_drop h1) (by omega) (by omega) H (fun w H => ⟨⟨trivial, ⟨trivial, ⟨trivial, ⟨trivial, ⟨trivial, ⟨trivial, ⟨trivial, ⟨trivial, trivial⟩⟩⟩⟩⟩⟩⟩⟩, ?_⟩))
        show _
        refine WC.seq ?_
        refine WC.region ?_
        refine l_rd rfl rfl (x_move (by conv => lhs; whnf)) ?_
        refine l_rd rfl rfl (x_move (by conv => lhs; whnf)) ?_
        refine l_rd rfl rfl (x_sliceFromLt (i := k) Try.underlying28 ty33 rfl rfl (by omega) (by omega) (by omega)) ?_
        refine l_rd rfl rfl (x_move (by conv => lhs; whnf)) ?_
        refine l_st rfl (s_copy Try.underlying28 ty33 rfl 1 (k := k) (m := 1) rfl rfl rfl rfl (H.sl 0 rfl) (edC_one e (h1 e List.mem_cons_self)) (by omega) (by omega) H (fun w H => ?_))
        refine WL.nil ?_
        refine WC.seq ?_
        refine WC.region ?_
        refine l_rd rfl rfl (x_move (by conv => lhs; whnf)) ?_
        refine l_rd rfl rfl (x_assign (by conv => lhs; whnf)) ?_
        refine WL.nil ?_
        refine WC.ret ?_
        refine atRet ?_
        exact RetM.one rfl (by (conv => lhs; whnf); try rfl) (by have H := H.drop; rw [show (k + 1) * 5 = k * 5 + 5 by omega, show (es.length - k) * 5 = es.length * 5 - k * 5 by omega, Nat.one_mul, ins_room (N := es.length * 5) (E := es.flatMap edC) (X := edC e) (z := 5) (by omega) ht9 (by omega), ← ins_cells] at H; exact H)

end Go.Proofs.Ytahdodijpmkddaa
set_option linter.unusedVariables false
set_option linter.unusedSimpArgs false
namespace Go.Proofs.Ytahdodijpmkddaa
open Go Go.RowKit KE Go.Proofs
/-! ### the order of edges -/
theorem ahd_irr (e : Ed) : ¬ ahd e e := by
  unfold ahd; simp [sLt_irr]
theorem ahd_tri (e f : Ed) : ahd e f ∨ (e.src = f.src ∧ e.dst = f.dst ∧ e.lab = f.lab ∧ e.time = f.time) ∨ ahd f e := by
  by_cases h1 : e.time = f.time
  · by_cases h2 : e.src = f.src
    · by_cases h3 : e.dst = f.dst
      · rcases sLt_tri e.lab f.lab with h | h | h
        · exact .inl ((ahd_l h1 h2 h3).2 h)
        · exact .inr (.inl ⟨h2, h3, h, h1⟩)
        · exact .inr (.inr ((ahd_l h1.symm h2.symm h3.symm).2 h))
      · rcases sLt_tri e.dst f.dst with h | h | h
        · exact .inl ((ahd_d h1 h2 h3).2 h)
        · exact absurd h h3
        · exact .inr (.inr ((ahd_d h1.symm h2.symm (fun q => h3 q.symm)).2 h))
    · rcases sLt_tri e.src f.src with h | h | h
      · exact .inl ((ahd_s h1 h2).2 h)
      · exact absurd h h2
      · exact .inr (.inr ((ahd_s h1.symm (fun q => h2 q.symm)).2 h))
  · rcases Int.lt_trichotomy e.time f.time with h | h | h
    · exact .inl ((ahd_t h1).2 h)
    · exact absurd h h1
    · exact .inr (.inr ((ahd_t (fun q => h1 q.symm)).2 h))
theorem ahd_trans {a b c : Ed} (h : ahd a b) (k : ahd b c) : ahd a c := by
  by_cases t1 : a.time = b.time
  · by_cases t2 : b.time = c.time
    · by_cases s1 : a.src = b.src
      · by_cases s2 : b.src = c.src
        · by_cases d1 : a.dst = b.dst
          · by_cases d2 : b.dst = c.dst
            · exact (ahd_l (t1.trans t2) (s1.trans s2) (d1.trans d2)).2 (sLt_trans ((ahd_l t1 s1 d1).1 h) ((ahd_l t2 s2 d2).1 k))
            · have := (ahd_d t2 s2 d2).1 k
              exact (ahd_d (t1.trans t2) (s1.trans s2) (by rw [d1]; exact d2)).2 (by rw [d1]; exact this)
          · have h' := (ahd_d t1 s1 d1).1 h
            by_cases d2 : b.dst = c.dst
            · exact (ahd_d (t1.trans t2) (s1.trans s2) (by rw [← d2]; exact d1)).2 (by rw [← d2]; exact h')
            · have k' := (ahd_d t2 s2 d2).1 k
              have := sLt_trans h' k'
              exact (ahd_d (t1.trans t2) (s1.trans s2) (fun q => by rw [q] at this; exact sLt_irr _ this)).2 this
        · have := (ahd_s t2 s2).1 k
          exact (ahd_s (t1.trans t2) (by rw [s1]; exact s2)).2 (by rw [s1]; exact this)
      · have h' := (ahd_s t1 s1).1 h
        by_cases s2 : b.src = c.src
        · exact (ahd_s (t1.trans t2) (by rw [← s2]; exact s1)).2 (by rw [← s2]; exact h')
        · have := sLt_trans h' ((ahd_s t2 s2).1 k)
          exact (ahd_s (t1.trans t2) (fun q => by rw [q] at this; exact sLt_irr _ this)).2 this
    · have := (ahd_t t2).1 k
      exact (ahd_t (by rw [t1]; exact t2)).2 (by rw [t1]; exact this)
  · have h' := (ahd_t t1).1 h
    by_cases t2 : b.time = c.time
    · exact (ahd_t (by rw [← t2]; exact t1)).2 (by rw [← t2]; exact h')
    · have := Int.lt_trans h' ((ahd_t t2).1 k)
      exact (ahd_t (by omega)).2 this
theorem ahd_asym {a b : Ed} (h : ahd a b) : ¬ ahd b a := fun k => ahd_irr a (ahd_trans h k)
theorem cmp_lt {e f : Ed} : cmpE e f < 0 ↔ ahd e f := by
  constructor
  · intro h
    by_cases k : ahd e f
    · exact k
    · by_cases k2 : ahd f e
      · rw [cmpE_gt k k2] at h; omega
      · rw [cmpE_eq k k2] at h; omega
  · intro h; rw [cmpE_lt h]; omega
theorem cmp_eq {e f : Ed} : cmpE e f = 0 ↔ (e.src = f.src ∧ e.dst = f.dst ∧ e.lab = f.lab ∧ e.time = f.time) := by
  constructor
  · intro h
    rcases ahd_tri e f with k | k | k
    · rw [cmpE_lt k] at h; omega
    · exact k
    · rw [cmpE_gt (ahd_asym k) k] at h; omega
  · rintro ⟨h1, h2, h3, h4⟩
    refine cmpE_eq (fun k => ?_) (fun k => ?_)
    · rw [ahd_l h4 h1 h2, h3] at k; exact sLt_irr _ k
    · rw [ahd_l h4.symm h1.symm h2.symm, h3] at k; exact sLt_irr _ k
/-! edges as they are -/
def kE (x : Eg) : Ed := ⟨x.src, x.dst, x.lab, x.time, .slice none 0 0⟩
def kk (e : Ed) : Ed := { e with pv := .slice none 0 0 }
theorem ahd_kk {e f : Ed} : ahd (kk e) (kk f) ↔ ahd e f := Iff.rfl
theorem cmp_kk {e f : Ed} : cmpE (kk e) (kk f) = cmpE e f := rfl
abbrev lt (x y : Eg) : Prop := ahd (kE x) (kE y)
def like (x y : Eg) : Prop := x.src = y.src ∧ x.dst = y.dst ∧ x.lab = y.lab ∧ x.time = y.time
instance (x y : Eg) : Decidable (like x y) := by unfold like; infer_instance
theorem lt_tri (x y : Eg) : lt x y ∨ like x y ∨ lt y x := ahd_tri (kE x) (kE y)
theorem like_cmp {x y : Eg} : cmpE (kE x) (kE y) = 0 ↔ like x y := cmp_eq
theorem kE_like {x y : Eg} (h : like x y) : kE x = kE y := by
  obtain ⟨h1, h2, h3, h4⟩ := h
  unfold kE; rw [h1, h2, h3, h4]
abbrev Srtd (V : List Eg) : Prop := V.Pairwise lt
theorem uniq : ∀ {V ys : List Eg}, Srtd V → ys.Pairwise (fun a b => ¬ lt b a) → ys.Perm V → ys = V
  | [], ys, _, _, hp => List.Perm.eq_nil hp
  | x :: V, [], _, _, hp => absurd hp.length_eq (by simp)
  | x :: V, y :: ys, hV, hy, hp => by
    have hV' := List.pairwise_cons.1 hV
    have hy' := List.pairwise_cons.1 hy
    have e : y = x := by
      rcases List.mem_cons.1 (hp.mem_iff.1 (List.mem_cons_self (a := y))) with h | h
      · exact h
      · rcases List.mem_cons.1 (hp.mem_iff.2 (List.mem_cons_self (a := x))) with k | k
        · exact k.symm
        · exact absurd (hV'.1 y h) (hy'.1 x k)
    subst e
    rw [uniq hV'.2 hy'.2 ((List.perm_cons y).1 hp)]
theorem uniq2 {V ys : List Eg} (h : Srtd V) (k : Srtd ys) (hp : ys.Perm V) : ys = V := uniq h (k.imp fun h => ahd_asym h) hp
/-! a search by halves -/
theorem bs_law {es : List Ed} {f : Ed} (hs : es.Pairwise ahd) : ∀ (n i j : Nat), j - i = n → i ≤ j → j ≤ es.length → (∀ (q : Nat) (e : Ed), q < i → es[q]? = some e → ahd e f) → (∀ (q : Nat) (e : Ed), j ≤ q → es[q]? = some e → ¬ ahd e f) →
    bsF es f i j ≤ es.length ∧ (∀ (q : Nat) (e : Ed), q < bsF es f i j → es[q]? = some e → ahd e f) ∧ ∀ (q : Nat) (e : Ed), bsF es f i j ≤ q → es[q]? = some e → ¬ ahd e f := by
  intro n
  induction n using Nat.strongRecOn with
  | ind n ih =>
    intro i j hn hij hj h1 h2
    by_cases h0 : i = j
    · rw [bs_eq h0]; subst h0; exact ⟨hj, h1, h2⟩
    obtain ⟨x, hx⟩ := lt_get (show (i + j) / 2 < es.length by omega)
    have hmon : ∀ (p q : Nat) (a b : Ed), p < q → es[p]? = some a → es[q]? = some b → ahd a b := fun p q a b hpq ha hb => by
      obtain ⟨hp1, hp2⟩ := List.getElem?_eq_some_iff.1 ha
      obtain ⟨hq1, hq2⟩ := List.getElem?_eq_some_iff.1 hb
      have := List.pairwise_iff_getElem.1 hs p q hp1 hq1 hpq
      rw [hp2, hq2] at this; exact this
    by_cases hc : cmpE x f < 0
    · rw [bs_lt (by omega) hx hc]
      refine ih _ (by omega) _ _ rfl (by omega) hj (fun q e hq he => ?_) h2
      by_cases hqm : q = (i + j) / 2
      · subst hqm; rw [hx] at he; cases he; exact cmp_lt.1 hc
      · exact ahd_trans (hmon q _ e x (by omega) he hx) (cmp_lt.1 hc)
    · rw [bs_ge (by omega) hx hc]
      refine ih _ (by omega) _ _ rfl (by omega) (by omega) h1 (fun q e hq he => ?_)
      by_cases hqm : q = (i + j) / 2
      · subst hqm; rw [hx] at he; cases he; exact fun k => hc (cmp_lt.2 k)
      · exact fun k => hc (cmp_lt.2 (ahd_trans (hmon _ q x e (by omega) hx he) k))
theorem bs_found {es : List Ed} {f : Ed} (hs : es.Pairwise ahd) : (∃ e, es[bsF es f 0 es.length]? = some e ∧ cmpE e f = 0) ↔ ∃ e ∈ es, cmpE e f = 0 := by
  obtain ⟨h1, h2, h3⟩ := bs_law (f := f) hs es.length 0 es.length rfl (by omega) (Nat.le_refl _) (fun q e h => by omega) (fun q e h he => by have := (List.getElem?_eq_some_iff.1 he).1; omega)
  constructor
  · rintro ⟨e, he, hc⟩; exact ⟨e, List.mem_of_getElem? he, hc⟩
  · rintro ⟨e, he, hc⟩
    obtain ⟨q, hq⟩ := List.getElem?_of_mem he
    have hq1 := (List.getElem?_eq_some_iff.1 hq).1
    have hna : ¬ ahd e f := fun k => by rw [cmpE_lt k] at hc; omega
    have hge : bsF es f 0 es.length ≤ q := Nat.not_lt.1 fun h => hna (h2 q e h hq)
    rcases Nat.eq_or_lt_of_le hge with h | h
    · rw [h]; exact ⟨e, hq, hc⟩
    · obtain ⟨x, hx⟩ := lt_get (show bsF es f 0 es.length < es.length by omega)
      have hxe : ahd x e := by
        obtain ⟨hp1, hp2⟩ := List.getElem?_eq_some_iff.1 hx
        obtain ⟨hq1, hq2⟩ := List.getElem?_eq_some_iff.1 hq
        have := List.pairwise_iff_getElem.1 hs _ q hp1 hq1 h
        rw [hp2, hq2] at this; exact this
      have hxf : ¬ ahd x f := h3 _ x (Nat.le_refl _) hx
      obtain ⟨k1, k2, k3, k4⟩ := cmp_eq.1 hc
      have hke : kk e = kk f := by unfold kk; rw [k1, k2, k3, k4]
      exact absurd (ahd_kk.1 (by rw [← hke]; exact ahd_kk.2 hxe)) hxf
theorem bs_ins {es : List Ed} {f : Ed} (hs : es.Pairwise ahd) (hn : ¬ ∃ e ∈ es, cmpE e f = 0) : bsF es f 0 es.length ≤ es.length ∧ (es.take (bsF es f 0 es.length) ++ f :: es.drop (bsF es f 0 es.length)).Pairwise ahd := by
  obtain ⟨h1, h2, h3⟩ := bs_law (f := f) hs es.length 0 es.length rfl (by omega) (Nat.le_refl _) (fun q e h => by omega) (fun q e h he => by have := (List.getElem?_eq_some_iff.1 he).1; omega)
  refine ⟨h1, ?_⟩
  generalize bsF es f 0 es.length = k at h1 h2 h3
  have ht : ∀ e ∈ es.take k, ahd e f := fun e he => by
    obtain ⟨q, hq⟩ := List.getElem?_of_mem he
    rw [List.getElem?_take] at hq
    split at hq
    · exact h2 q e (by assumption) hq
    · cases hq
  have hd : ∀ e ∈ es.drop k, ahd f e := fun e he => by
    obtain ⟨q, hq⟩ := List.getElem?_of_mem he
    rw [List.getElem?_drop] at hq
    have hna := h3 (k + q) e (by omega) hq
    rcases ahd_tri e f with a | a | a
    · exact absurd a hna
    · exact absurd ⟨e, List.mem_of_getElem? hq, cmp_eq.2 a⟩ hn
    · exact a
  have hs' := hs
  rw [← List.take_append_drop k es] at hs'
  obtain ⟨p1, p2, p3⟩ := List.pairwise_append.1 hs'
  refine List.pairwise_append.2 ⟨p1, List.pairwise_cons.2 ⟨hd, p2⟩, fun a ha b hb => ?_⟩
  rcases List.mem_cons.1 hb with rfl | hb
  · exact ht a ha
  · exact p3 a ha b hb
end Go.Proofs.Ytahdodijpmkddaa
set_option linter.unusedVariables false
set_option linter.unusedSimpArgs false
namespace Go.Proofs.Ytahdodijpmkddaa
open Go Go.RowKit KE Go.Proofs
/-! ### the buffer in memory -/
/-- an edge that stays as it is in memory -/
def ER (g : Sub) (e : Ed) (x : Eg) : Prop := kk e = kE x ∧ oneC e.pv = true ∧ Fx g (fun w => RdS w e.pv 4 prC x.props)
theorem ER.mono {g g' : Sub} {e : Ed} {x : Eg} (h : ER g e x) (k : sle g g') : ER g' e x := ⟨h.1, h.2.1, h.2.2.mono k⟩
theorem kk_kE {e : Ed} {x : Eg} (h : kk e = kE x) : e.src = x.src ∧ e.dst = x.dst ∧ e.lab = x.lab ∧ e.time = x.time := by
  unfold kk kE at h
  cases e; cases x
  simp only [Ed.mk.injEq] at h
  exact ⟨h.1, h.2.1, h.2.2.1, h.2.2.2.1⟩
theorem ER.at {g : Sub} {e : Ed} {x : Eg} {w : World} (h : ER g e x) (hw : hsub g w) : EdR w e x := by
  obtain ⟨h1, h2, h3, h4⟩ := kk_kE h.1
  exact ⟨h1, h2, h3, h4, h.2.2 w hw⟩
def LR (g : Sub) : List Ed → List Eg → Prop
  | [], [] => True
  | e :: es, x :: xs => ER g e x ∧ LR g es xs
  | _, _ => False
theorem LR.len {g : Sub} : ∀ {es : List Ed} {xs : List Eg}, LR g es xs → es.length = xs.length
  | [], [], _ => rfl
  | e :: es, x :: xs, h => by simp [LR.len h.2]
  | [], _ :: _, h => h.elim
  | _ :: _, [], h => h.elim
theorem LR.mono {g g' : Sub} (k : sle g g') : ∀ {es : List Ed} {xs : List Eg}, LR g es xs → LR g' es xs
  | [], [], _ => trivial
  | e :: es, x :: xs, h => ⟨h.1.mono k, LR.mono k h.2⟩
  | [], _ :: _, h => h.elim
  | _ :: _, [], h => h.elim
theorem LR.get {g : Sub} : ∀ {es : List Ed} {xs : List Eg} {i : Nat} {e : Ed} {x : Eg}, LR g es xs → es[i]? = some e → xs[i]? = some x → ER g e x
  | e :: es, x :: xs, 0, e', x', h, h1, h2 => by simp at h1 h2; subst h1; subst h2; exact h.1
  | e :: es, x :: xs, i + 1, e', x', h, h1, h2 => LR.get h.2 (by simpa using h1) (by simpa using h2)
  | [], [], i, e', x', h, h1, h2 => by simp at h1
  | [], _ :: _, _, _, _, h, _, _ => h.elim
  | _ :: _, [], _, _, _, h, _, _ => h.elim
theorem LR.kks {g : Sub} : ∀ {es : List Ed} {xs : List Eg}, LR g es xs → es.map kk = xs.map kE
  | [], [], _ => rfl
  | e :: es, x :: xs, h => by simp only [List.map_cons, LR.kks h.2, h.1.1]
  | [], _ :: _, h => h.elim
  | _ :: _, [], h => h.elim
theorem LR.one {g : Sub} : ∀ {es : List Ed} {xs : List Eg}, LR g es xs → ∀ e ∈ es, oneC e.pv = true
  | [], [], _, e, he => by simp at he
  | e :: es, x :: xs, h, e', he => by
    rcases List.mem_cons.1 he with rfl | he
    · exact h.1.2.1
    · exact LR.one h.2 e' he
  | [], _ :: _, h, _, _ => h.elim
  | _ :: _, [], h, _, _ => h.elim
theorem LR.ins {g : Sub} {e : Ed} {x : Eg} (he : ER g e x) : ∀ {es : List Ed} {xs : List Eg} (k : Nat), LR g es xs → LR g (es.take k ++ e :: es.drop k) (xs.take k ++ x :: xs.drop k)
  | [], [], k, h => by simp; exact ⟨he, trivial⟩
  | f :: es, y :: xs, 0, h => ⟨he, h⟩
  | f :: es, y :: xs, k + 1, h => ⟨h.1, LR.ins he k h.2⟩
  | [], _ :: _, _, h => h.elim
  | _ :: _, [], _, h => h.elim
theorem LR.ahds {g : Sub} {es : List Ed} {xs : List Eg} (h : LR g es xs) : es.Pairwise ahd ↔ xs.Pairwise lt := by
  have e := h.kks
  have h1 : es.Pairwise ahd ↔ (es.map kk).Pairwise ahd := by rw [List.pairwise_map]; exact Iff.rfl
  rw [h1, e, List.pairwise_map]
theorem LR.rd {g : Sub} {es : List Ed} {xs : List Eg} {w : World} (h : LR g es xs) (hw : hsub g w) (i : Nat) (e : Ed) (x : Eg) (h1 : es[i]? = some e) (h2 : xs[i]? = some x) : EdR w e x := (h.get h1 h2).at hw
theorem LR.nil_iff {g : Sub} {es : List Ed} {xs : List Eg} (h : LR g es xs) : es = [] ↔ xs = [] := by
  rw [← List.length_eq_zero_iff, h.len, List.length_eq_zero_iff]
abbrev Tb := List (Int × Value × List Ed)
def slT (p : Int × Value × List Ed) : Hp := Sl p.2.1 33 5 p.2.2.length (p.2.2.flatMap edC)
def ot : Tb → Hp
  | [] => fun _ => True
  | p :: tb => star (slT p) (ot tb)
theorem ot_mid (p : Int × Value × List Ed) (B : Tb) : ∀ (A : Tb), ot (A ++ p :: B) = star (slT p) (ot (A ++ B))
  | [] => rfl
  | q :: A => by
    show star (slT q) (ot (A ++ p :: B)) = star (slT p) (star (slT q) (ot (A ++ B)))
    rw [ot_mid p B A]
    exact funext fun h => propext ⟨star_swap, star_swap⟩
abbrev mlo (tb : Tb) : List (Int × Value) := tb.map fun p => (p.1, p.2.1)
abbrev keys (tb : Tb) : List Int := tb.map (·.1)
theorem tb_look (t : Int) : ∀ (tb : Tb), (t ∉ keys tb ∧ alook t (mlo tb) = none ∧ ∀ v, aset t v (mlo tb) = mlo tb ++ [(t, v)]) ∨
    ∃ A v es B, tb = A ++ (t, v, es) :: B ∧ t ∉ keys A ∧ alook t (mlo tb) = some v ∧ (∀ v' es', aset t v' (mlo tb) = mlo (A ++ (t, v', es') :: B)) ∧ adel t (mlo tb) = mlo (A ++ B)
  | [] => .inl ⟨by simp, rfl, fun _ => rfl⟩
  | (k, v, es) :: tb => by
    by_cases h : t = k
    · subst h
      exact .inr ⟨[], v, es, tb, rfl, by simp, by simp [alook], fun v' es' => by simp [aset], by simp [adel]⟩
    · rcases tb_look t tb with ⟨h1, h2, h3⟩ | ⟨A, v2, es2, B, h1, h2, h3, h4, h5⟩
      · refine .inl ⟨by simpa [h] using h1, ?_, fun v' => ?_⟩
        · simp only [mlo, List.map_cons, alook, if_neg h]; exact h2
        · have := h3 v'
          simp only [mlo] at this
          simp only [mlo, List.map_cons, aset, if_neg h, this, List.cons_append]
      · refine .inr ⟨(k, v, es) :: A, v2, es2, B, by rw [h1]; rfl, by simpa [h] using h2, ?_, fun v' es' => ?_, ?_⟩
        · simp only [mlo, List.map_cons, alook, if_neg h]; exact h3
        · have := h4 v' es'
          simp only [mlo] at this
          simp only [mlo, List.map_cons, aset, if_neg h, this, List.cons_append]
        · simp only [mlo] at h5
          simp only [mlo, List.map_cons, adel, if_neg h, h5, List.cons_append]
theorem adel_aset (t : Int) (v : Value) : ∀ (l : List (Int × Value)), adel t (aset t v l) = adel t l
  | [] => by simp [aset, adel]
  | p :: l => by
    by_cases h : t = p.1
    · simp [aset, adel, h]
    · simp [aset, adel, h, adel_aset t v l]
def tm (t : Int) (x : Eg) : Bool := decide (x.time = t)
structure BufI (g : Sub) (V : List Eg) (hs : List It) (tb : Tb) : Prop where
  heap : Heap hs
  hk : (hs.map (·.1)).Perm (keys tb)
  nd : (keys tb).Nodup
  ent : ∀ p ∈ tb, p.2.2 ≠ [] ∧ LR g p.2.2 (V.filter (tm p.1))
  cov : ∀ x ∈ V, x.time ∈ keys tb
  srt : Srtd V
  len : V.length ≤ 1000
  pl : ∀ x ∈ V, x.props.length ≤ 1000
  tmb : ∀ x ∈ V, x.time ≤ 1099511627776
theorem BufI.mono {g g' : Sub} {V : List Eg} {hs : List It} {tb : Tb} (h : BufI g V hs tb) (k : sle g g') : BufI g' V hs tb :=
  ⟨h.heap, h.hk, h.nd, fun p hp => ⟨(h.ent p hp).1, (h.ent p hp).2.mono k⟩, h.cov, h.srt, h.len, h.pl, h.tmb⟩
def BufP (g : Sub) (B : Nat) (V : List Eg) : Hp := fun m => ∃ q : Nat × Nat × List It × Tb, BufI g V q.2.2.1 q.2.2.2 ∧
  star (pt B (.cells #[.pointer (some ⟨q.1, 0, none⟩), .map (some q.2.1)] 56 (0, 0))) (star (Mp TI q.2.1 (mlo q.2.2.2)) (star (HeapP q.1 q.2.2.1) (ot q.2.2.2))) m
section
variable {s : Sy} {w : World} {L : List Hp} {g : Sub} {B : Nat} {V : List Eg}
theorem BufP.opn (H : Hd s w (BufP g B V :: L)) : ∃ h M hs tb, BufI g V hs tb ∧ Hd s w (pt B (.cells #[.pointer (some ⟨h, 0, none⟩), .map (some M)] 56 (0, 0)) :: Mp TI M (mlo tb) :: HeapP h hs :: ot tb :: L) := by
  obtain ⟨⟨h, M, hs, tb⟩, hI, H⟩ := Hd.opn H (fun h hh => hh)
  exact ⟨h, M, hs, tb, hI, Hd.unstarAt [_, _] (Hd.unstarAt [_] H.unstar)⟩
theorem BufP.mk {h M : Nat} {hs : List It} {tb : Tb} (hI : BufI g V hs tb) (H : Hd s w (pt B (.cells #[.pointer (some ⟨h, 0, none⟩), .map (some M)] 56 (0, 0)) :: Mp TI M (mlo tb) :: HeapP h hs :: ot tb :: L)) : Hd s w (BufP g B V :: L) :=
  (Hd.star (Hd.starAt [_] (Hd.starAt [_, _] H))).weak fun h' hh => ⟨(h, M, hs, tb), hI, hh⟩
theorem BufP.mono {g' : Sub} (k : sle g g') (H : Hd s w (BufP g B V :: L)) : Hd s w (BufP g' B V :: L) :=
  H.weak fun h ⟨q, hI, hh⟩ => ⟨q, hI.mono k, hh⟩
/-- what lies under a key, and what lies beside -/
theorem tb_get {hs : List It} {tb : Tb} (hI : BufI g V hs tb) (t : Int) : ∃ (u : Value) (es : List Ed) (rest : Tb),
    lkV false (.slice none 0 0) (alook t (mlo tb)) = u ∧ LR g es (V.filter (tm t)) ∧ t ∉ keys rest ∧ (keys rest).Nodup ∧ (∀ p ∈ rest, p ∈ tb) ∧
    (es ≠ [] → tb.Perm ((t, u, es) :: rest)) ∧ (es = [] → rest = tb) ∧
    (∀ {w : World} {L : List Hp}, Hd s w (ot tb :: L) → Hd s w (slT (t, u, es) :: ot rest :: L)) ∧ (∀ {w : World} {L : List Hp}, es ≠ [] → Hd s w (slT (t, u, es) :: ot rest :: L) → Hd s w (ot tb :: L)) ∧
    (∀ v' es', ∃ tb', aset t v' (mlo tb) = mlo tb' ∧ tb'.Perm ((t, v', es') :: rest) ∧ ∀ {w : World} {L : List Hp}, Hd s w (slT (t, v', es') :: ot rest :: L) → Hd s w (ot tb' :: L)) ∧
    (es ≠ [] → ∀ v', adel t (aset t v' (mlo tb)) = mlo rest) := by
  rcases tb_look t tb with ⟨h1, h2, h3⟩ | ⟨A, v, es, B, h1, h2, h3, h4, h5⟩
  · have hF : V.filter (tm t) = [] := List.filter_eq_nil_iff.2 fun x hx => by
      simp only [tm, decide_eq_true_eq]; rintro rfl; exact h1 (hI.cov x hx)
    refine ⟨.slice none 0 0, [], tb, by rw [h2]; rfl, by rw [hF]; trivial, h1, hI.nd, fun p hp => hp, fun h => absurd rfl h, fun _ => rfl, fun H => Hd.nil H 33 5, fun h => absurd rfl h, fun v' es' => ⟨tb ++ [(t, v', es')], ?_, List.perm_append_comm, fun {w L} H => ?_⟩, fun h => absurd rfl h⟩
    · rw [h3]; simp [mlo]
    · rw [ot_mid, List.append_nil]; exact H.star
  · subst h1
    have hm : (t, v, es) ∈ A ++ (t, v, es) :: B := by simp
    have hne := hI.ent _ hm
    have hnd := hI.nd
    simp only [keys, List.map_append, List.map_cons] at hnd
    obtain ⟨n1, n2, n3⟩ := List.nodup_append.1 hnd
    have n4 := List.nodup_cons.1 n2
    refine ⟨v, es, A ++ B, by rw [h3]; rfl, hne.2, ?_, ?_, ?_, fun _ => List.perm_middle, fun h => absurd h hne.1, fun H => by rw [ot_mid] at H; exact H.unstar, fun _ H => by rw [ot_mid]; exact H.star, fun v' es' => ⟨A ++ (t, v', es') :: B, h4 v' es', List.perm_middle, fun H => by rw [ot_mid]; exact H.star⟩, fun _ v' => by rw [adel_aset, h5]⟩
    · simp only [keys, List.map_append, List.mem_append, not_or]; exact ⟨h2, n4.1⟩
    · simp only [keys, List.map_append]
      exact List.nodup_append.2 ⟨n1, n4.2, fun a ha b hb => n3 a ha b (List.mem_cons_of_mem _ hb)⟩
    · intro p hp
      rcases List.mem_append.1 hp with h | h <;> simp [h]
end
theorem BufI.kle {g : Sub} {V : List Eg} {hs : List It} {tb : Tb} (hI : BufI g V hs tb) : ∀ p ∈ hs, p.1 ≤ 9223372036854775807 := fun p hp => by
  obtain ⟨q, hq, hq1⟩ := List.mem_map.1 (hI.hk.mem_iff.1 (List.mem_map_of_mem hp))
  obtain ⟨e1, e2⟩ := hI.ent q hq
  obtain ⟨y, hy⟩ := List.exists_mem_of_ne_nil _ (fun h => e1 (e2.nil_iff.2 h))
  obtain ⟨hy1, hy2⟩ := List.mem_filter.1 hy
  have := hI.tmb y hy1
  have h3 : y.time = q.1 := of_decide_eq_true hy2
  omega
theorem tb_close {s : Sy} {w : World} {L : List Hp} {tb rest : Tb} {t : Int} {u : Value} {es : List Ed} (h1 : es = [] → rest = tb) (h2 : es ≠ [] → Hd s w (slT (t, u, es) :: ot rest :: L) → Hd s w (ot tb :: L)) (H : Hd s w (slT (t, u, es) :: ot rest :: L)) : Hd s w (ot tb :: L) := by
  by_cases h : es = []
  · rw [h1 h] at H; exact H.drop
  · exact h2 h H
theorem ot_rd {s : Sy} {w : World} : ∀ {tb : Tb} {L : List Hp}, Hd s w (ot tb :: L) → ∀ q ∈ tb, RdS w q.2.1 5 edC q.2.2
  | [], L, H, q, hq => by simp at hq
  | p :: tb, L, H, q, hq => by
    have H := Hd.unstar (show Hd s w (star (slT p) (ot tb) :: L) from H)
    rcases List.mem_cons.1 hq with rfl | hq
    · exact H.sl 0 rfl
    · exact ot_rd H.drop q hq
theorem ot_rdi {s : Sy} {w : World} {tb : Tb} {L : List Hp} (H : Hd s w L) (i : Nat) (hi : L[i]? = some (ot tb)) : ∀ q ∈ tb, RdS w q.2.1 5 edC q.2.2 := ot_rd (H.pick i hi)
/-! ### all, by the keys -/
theorem filter_or {α : Type} {p q : α → Bool} (hd : ∀ x, p x = true → q x = false) : ∀ V : List α, (V.filter fun x => p x || q x).Perm (V.filter p ++ V.filter q)
  | [] => List.Perm.refl _
  | x :: V => by
    have ih := filter_or hd V
    cases hp : p x with
    | true =>
      have hq := hd x hp
      rw [List.filter_cons_of_pos (by simp [hp]), List.filter_cons_of_pos hp, List.filter_cons_of_neg (by simp [hq])]
      exact ih.cons x
    | false =>
      cases hq : q x with
      | true =>
        rw [List.filter_cons_of_pos (by simp [hq]), List.filter_cons_of_neg (by simp [hp]), List.filter_cons_of_pos hq]
        exact (ih.cons x).trans List.perm_middle.symm
      | false =>
        rw [List.filter_cons_of_neg (by simp [hp, hq]), List.filter_cons_of_neg (by simp [hp]), List.filter_cons_of_neg (by simp [hq])]
        exact ih
def byK (V : List Eg) (ks : List Int) : List Eg := ks.flatMap fun k => V.filter (tm k)
theorem byK_perm (V : List Eg) : ∀ {ks : List Int}, ks.Nodup → (byK V ks).Perm (V.filter fun x => decide (x.time ∈ ks))
  | [], _ => by simp [byK]
  | k :: ks, h => by
    obtain ⟨h1, h2⟩ := List.nodup_cons.1 h
    have ih := byK_perm V h2
    have e : (fun x : Eg => decide (x.time ∈ k :: ks)) = fun x => tm k x || decide (x.time ∈ ks) := by
      funext x; simp [tm]
    rw [e]
    refine List.Perm.trans ?_ (filter_or (fun x hx => ?_) V).symm
    · show (V.filter (tm k) ++ byK V ks).Perm _
      exact ih.append_left _
    · have : x.time = k := of_decide_eq_true hx
      simp [this, h1]
theorem byK_all {V : List Eg} {ks : List Int} (h : ks.Nodup) (hc : ∀ x ∈ V, x.time ∈ ks) : (byK V ks).Perm V := by
  have := byK_perm V h
  rwa [List.filter_eq_self.2 (fun x hx => by simpa using hc x hx)] at this
theorem byK_srt {V : List Eg} (hV : Srtd V) {ks : List Int} (h : ks.Pairwise (· < ·)) : Srtd (byK V ks) := by
  induction ks with
  | nil => simp [byK]
  | cons k ks ih =>
    obtain ⟨h1, h2⟩ := List.pairwise_cons.1 h
    show Srtd (V.filter (tm k) ++ byK V ks)
    refine List.pairwise_append.2 ⟨hV.filter _, ih h2, fun a ha b hb => ?_⟩
    have hat : a.time = k := of_decide_eq_true (List.mem_filter.1 ha).2
    obtain ⟨j, hj, hb⟩ := List.mem_flatMap.1 hb
    have hbt : b.time = j := of_decide_eq_true (List.mem_filter.1 hb).2
    have := h1 j hj
    have hlt : (kE a).time < (kE b).time := by show a.time < b.time; omega
    exact (ahd_t (by omega)).2 hlt
theorem byK_len {V : List Eg} (h : V.length ≤ 1000) : ∀ ks : List Int, (byK V ks).length ≤ ks.length * 1000
  | [] => by simp [byK]
  | k :: ks => by
    have := byK_len h ks
    have h2 := List.length_filter_le (tm k) V
    show (V.filter (tm k) ++ byK V ks).length ≤ _
    rw [List.length_append, List.length_cons]; omega
theorem BufI.all {g : Sub} {V : List Eg} {hs zs : List It} {tb : Tb} (hI : BufI g V hs tb) (hz : Srt zs) (hp : zs.Perm hs) : byK V (zs.map (·.1)) = V := by
  have hk : (zs.map (·.1)).Perm (keys tb) := (hp.map _).trans hI.hk
  have hnd : (zs.map (·.1)).Nodup := hk.nodup_iff.2 hI.nd
  have hlt : (zs.map (·.1)).Pairwise (· < ·) := by
    have h1 := List.nodup_iff_pairwise_ne.1 hnd
    rw [List.pairwise_map] at h1 ⊢
    refine (h1.and hz).imp ?_
    rintro a b ⟨h2, h3⟩
    unfold hlt at h3
    omega
  exact uniq2 hI.srt (byK_srt hI.srt hlt) (byK_all hnd fun x hx => hk.mem_iff.2 (hI.cov x hx))
/-! ### an edge put -/
def insV (x : Eg) : List Eg → List Eg
  | [] => [x]
  | y :: V => if lt y x then y :: insV x V else x :: y :: V
theorem insV_perm (x : Eg) : ∀ V : List Eg, (insV x V).Perm (x :: V)
  | [] => List.Perm.refl _
  | y :: V => by
    rw [insV]
    split
    · exact ((insV_perm x V).cons y).trans (List.Perm.swap _ _ _)
    · exact List.Perm.refl _
theorem insV_srt (x : Eg) : ∀ {V : List Eg}, Srtd V → (∀ y ∈ V, ¬ like y x) → Srtd (insV x V)
  | [], _, _ => by simp [insV]
  | y :: V, h, hn => by
    obtain ⟨h1, h2⟩ := List.pairwise_cons.1 h
    rw [insV]
    split
    · rename_i hl
      refine List.pairwise_cons.2 ⟨fun z hz => ?_, insV_srt x h2 fun y hy => hn y (List.mem_cons_of_mem _ hy)⟩
      rcases List.mem_cons.1 ((insV_perm x V).mem_iff.1 hz) with rfl | hz
      · exact hl
      · exact h1 z hz
    · rename_i hl
      have hxy : lt x y := by
        rcases lt_tri y x with k | k | k
        · exact absurd k hl
        · exact absurd k (hn y List.mem_cons_self)
        · exact k
      refine List.pairwise_cons.2 ⟨fun z hz => ?_, h⟩
      rcases List.mem_cons.1 hz with rfl | hz
      · exact hxy
      · exact ahd_trans hxy (h1 z hz)
theorem like_in {g : Sub} {V : List Eg} {es : List Ed} {f : Ed} {x : Eg} (hf : kk f = kE x) (h : LR g es (V.filter (tm x.time))) : (∃ e ∈ es, cmpE e f = 0) ↔ ∃ y ∈ V, like y x := by
  have e1 : (∃ e ∈ es, cmpE e f = 0) ↔ ∃ k ∈ es.map kk, cmpE k (kE x) = 0 := by
    rw [← hf]
    exact ⟨fun ⟨e, he, hc⟩ => ⟨kk e, List.mem_map_of_mem he, hc⟩, fun ⟨k, hk, hc⟩ => by
      obtain ⟨e, he, rfl⟩ := List.mem_map.1 hk
      exact ⟨e, he, hc⟩⟩
  rw [e1, h.kks]
  constructor
  · rintro ⟨k, hk, hc⟩
    obtain ⟨y, hy, rfl⟩ := List.mem_map.1 hk
    exact ⟨y, (List.mem_filter.1 hy).1, like_cmp.1 hc⟩
  · rintro ⟨y, hy, hl⟩
    exact ⟨kE y, List.mem_map_of_mem (List.mem_filter.2 ⟨hy, by simp [tm, hl.2.2.2]⟩), like_cmp.2 hl⟩
theorem filter_eq {V V' : List Eg} {x : Eg} {t : Int} (h : Srtd V) (h' : Srtd V') (hp : V'.Perm (x :: V)) (ht : x.time ≠ t) : V'.filter (tm t) = V.filter (tm t) := by
  refine uniq2 (h.filter _) (h'.filter _) ?_
  have := hp.filter (tm t)
  rwa [List.filter_cons_of_neg (by simp [tm, ht])] at this
theorem BufI.put {g g' : Sub} {V : List Eg} {hs hs' : List It} {tb tb' rest : Tb} {v' : Value} {es : List Ed} {e : Ed} {x : Eg} {k : Nat} (hI : BufI g V hs tb) (hg : sle g g') (hes : LR g es (V.filter (tm x.time))) (hr : x.time ∉ keys rest) (hrn : (keys rest).Nodup) (hrm : ∀ p ∈ rest, p ∈ tb)
    (hx : ER g' e x) (hk : k = bsF es e 0 es.length) (hn : ¬ ∃ y ∈ V, like y x) (htb : tb'.Perm ((x.time, v', es.take k ++ e :: es.drop k) :: rest)) (hh : Heap hs') (hhk : (hs'.map (·.1)).Perm (x.time :: keys rest)) (hcov : ∀ y ∈ V, y.time = x.time ∨ y.time ∈ keys rest)
    (hl : V.length < 1000) (hp : x.props.length ≤ 1000) (htm : x.time ≤ 1099511627776) : BufI g' (insV x V) hs' tb' := by
  have hV' := insV_srt x hI.srt fun y hy hl => hn ⟨y, hy, hl⟩
  have hP := insV_perm x V
  have hkp : (keys tb').Perm (x.time :: keys rest) := htb.map _
  have hne : ¬ ∃ f ∈ es, cmpE f e = 0 := fun h => hn ((like_in hx.1 hes).1 h)
  have hsF : es.Pairwise ahd := hes.ahds.2 (hI.srt.filter _)
  have hins := bs_ins hsF hne
  rw [← hk] at hins
  have hL : LR g' (es.take k ++ e :: es.drop k) ((V.filter (tm x.time)).take k ++ x :: (V.filter (tm x.time)).drop k) := LR.ins hx k (hes.mono hg)
  have hF : (V.filter (tm x.time)).take k ++ x :: (V.filter (tm x.time)).drop k = (insV x V).filter (tm x.time) := by
    refine uniq2 (hV'.filter _) (hL.ahds.1 hins.2) ?_
    have h1 := hP.filter (tm x.time)
    rw [List.filter_cons_of_pos (by simp [tm])] at h1
    refine (List.perm_middle.trans ?_).trans h1.symm
    rw [List.take_append_drop]
  refine ⟨hh, hhk.trans hkp.symm, hkp.nodup_iff.2 (List.nodup_cons.2 ⟨hr, hrn⟩), fun p hp' => ?_, fun y hy => ?_, hV', by rw [hP.length_eq]; simp; omega, fun y hy => ?_, fun y hy => ?_⟩
  · rcases List.mem_cons.1 (htb.mem_iff.1 hp') with rfl | h
    · exact ⟨by simp, by rw [← hF]; exact hL⟩
    · have hpt : x.time ≠ p.1 := fun e => hr (e ▸ List.mem_map_of_mem h)
      have := hI.ent p (hrm p h)
      exact ⟨this.1, by rw [filter_eq hI.srt hV' hP hpt]; exact this.2.mono hg⟩
  · rw [hkp.mem_iff]
    rcases List.mem_cons.1 (hP.mem_iff.1 hy) with rfl | h
    · exact List.mem_cons_self
    · rcases hcov y h with h | h
      · rw [h]; exact List.mem_cons_self
      · exact List.mem_cons_of_mem _ h
  · rcases List.mem_cons.1 (hP.mem_iff.1 hy) with rfl | h
    · exact hp
    · exact hI.pl y h
  · rcases List.mem_cons.1 (hP.mem_iff.1 hy) with rfl | h
    · exact htm
    · exact hI.tmb y h
/-! ### the first edge, taken -/
theorem BufI.first {g : Sub} {V : List Eg} {x : Eg} {hs : List It} {tb : Tb} (hI : BufI g (x :: V) hs tb) : hs ≠ [] ∧ (at_ hs 0).1 = x.time := by
  have hx : x.time ∈ hs.map (·.1) := hI.hk.mem_iff.2 (hI.cov x List.mem_cons_self)
  obtain ⟨p, hp, hpx⟩ := List.mem_map.1 hx
  have hne : hs ≠ [] := fun h => by rw [h] at hp; simp at hp
  refine ⟨hne, ?_⟩
  have hlen : 0 < hs.length := List.length_pos_iff.2 hne
  obtain ⟨i, hi⟩ := List.getElem?_of_mem hp
  have h1 := hI.heap.least i (List.getElem?_eq_some_iff.1 hi).1
  rw [at_some hi] at h1
  have h0 : (at_ hs 0).1 ∈ keys tb := hI.hk.mem_iff.1 (List.mem_map_of_mem (List.mem_of_getElem? (some_at hlen)))
  obtain ⟨q, hq, hq1⟩ := List.mem_map.1 h0
  obtain ⟨e1, e2⟩ := hI.ent q hq
  have hF : (x :: V).filter (tm q.1) ≠ [] := fun h => e1 (e2.nil_iff.2 h)
  obtain ⟨y, hy⟩ := List.exists_mem_of_ne_nil _ hF
  obtain ⟨hy1, hy2⟩ := List.mem_filter.1 hy
  have hyt : y.time = q.1 := by simpa [tm] using hy2
  have hle : x.time ≤ y.time := by
    rcases List.mem_cons.1 hy1 with rfl | hy1
    · exact Int.le_refl _
    · have hl : ahd (kE x) (kE y) := (List.pairwise_cons.1 hI.srt).1 y hy1
      by_cases ht : x.time = y.time
      · omega
      · have := (ahd_t (e := kE x) (f := kE y) ht).1 hl
        exact Int.le_of_lt this
  unfold hlt at h1
  omega
theorem BufI.empty {g : Sub} {hs : List It} {tb : Tb} (hI : BufI g [] hs tb) : hs = [] ∧ tb = [] := by
  have htb : tb = [] := by
    cases tb with
    | nil => rfl
    | cons p tb =>
      obtain ⟨e1, e2⟩ := hI.ent p List.mem_cons_self
      exact absurd (e2.nil_iff.2 rfl) e1
  subst htb
  exact ⟨List.map_eq_nil_iff.1 (List.Perm.eq_nil hI.hk), rfl⟩
theorem BufI.take {g : Sub} {V : List Eg} {x : Eg} {hs hs' : List It} {tb tb' rest : Tb} {u v' : Value} {e : Ed} {es : List Ed} (hI : BufI g (x :: V) hs tb) (hes : LR g (e :: es) ((x :: V).filter (tm x.time))) (hr : x.time ∉ keys rest) (hrn : (keys rest).Nodup) (hrm : ∀ p ∈ rest, p ∈ tb) (htb0 : tb.Perm ((x.time, u, e :: es) :: rest))
    (hh : Heap hs') (hc : (es ≠ [] ∧ tb'.Perm ((x.time, v', es) :: rest) ∧ hs' = hs) ∨ (es = [] ∧ tb' = rest ∧ (hs'.map (·.1)).Perm (keys rest))) : BufI g V hs' tb' := by
  have hs2 := List.pairwise_cons.1 hI.srt
  have hF : (x :: V).filter (tm x.time) = x :: V.filter (tm x.time) := List.filter_cons_of_pos (by simp [tm])
  rw [hF] at hes
  have hrest : ∀ p ∈ rest, p.2.2 ≠ [] ∧ LR g p.2.2 (V.filter (tm p.1)) := fun p hp => by
    have := hI.ent p (hrm p hp)
    have hpt : ¬ x.time = p.1 := fun e => hr (e ▸ List.mem_map_of_mem hp)
    rwa [List.filter_cons_of_neg (by simp [tm, hpt])] at this
  have hcov : ∀ y ∈ V, y.time = x.time ∨ y.time ∈ keys rest := fun y hy => by
    have h1 := hI.cov y (List.mem_cons_of_mem _ hy)
    have h2 : (keys tb).Perm (x.time :: keys rest) := htb0.map _
    exact List.mem_cons.1 (h2.mem_iff.1 h1)
  have hl := hI.len
  simp only [List.length_cons] at hl
  rcases hc with ⟨h1, h2, h3⟩ | ⟨h1, h2, h3⟩
  · have hkp : (keys tb').Perm (x.time :: keys rest) := h2.map _
    have hkp0 : (keys tb).Perm (x.time :: keys rest) := htb0.map _
    refine ⟨hh, ?_, hkp.nodup_iff.2 (List.nodup_cons.2 ⟨hr, hrn⟩), fun p hp => ?_, fun y hy => ?_, hs2.2, by omega, fun y hy => hI.pl y (List.mem_cons_of_mem _ hy), fun y hy => hI.tmb y (List.mem_cons_of_mem _ hy)⟩
    · rw [h3]; exact (hI.hk.trans hkp0).trans hkp.symm
    · rcases List.mem_cons.1 (h2.mem_iff.1 hp) with rfl | h
      · exact ⟨h1, hes.2⟩
      · exact hrest p h
    · rw [hkp.mem_iff]
      rcases hcov y hy with h | h
      · rw [h]; exact List.mem_cons_self
      · exact List.mem_cons_of_mem _ h
  · subst h1; subst h2
    have hF0 : V.filter (tm x.time) = [] := hes.2.nil_iff.1 rfl
    refine ⟨hh, h3, hrn, hrest, fun y hy => ?_, hs2.2, by omega, fun y hy => hI.pl y (List.mem_cons_of_mem _ hy), fun y hy => hI.tmb y (List.mem_cons_of_mem _ hy)⟩
    rcases hcov y hy with h | h
    · exact absurd (show y ∈ V.filter (tm x.time) from List.mem_filter.2 ⟨hy, by simp [tm, h]⟩) (by rw [hF0]; simp)
    · exact h
end Go.Proofs.Ytahdodijpmkddaa
set_option linter.unusedVariables false
set_option linter.unusedSimpArgs false
namespace Go.Proofs.Ytahdodijpmkddaa
open Go Go.RowKit KE Go.Proofs
theorem ty50 : Ty Try.prog 50 (.pointer none) 1 8 := Ty.of (by kernel_rfl)
theorem cal26 : Cal Try.prog 26 := ⟨_, Try.func26, rfl, by decide⟩
theorem cal31 : Cal Try.prog 31 := ⟨_, Try.func31, rfl, by decide⟩
theorem cal57 : Cal Try.prog 57 := ⟨_, Try.func57, rfl, by decide⟩
theorem c28 {s : Sy} {L : List Hp} {v : Value} {es : List Ed} (w : World) (H : Hd s w L) (hr : ∀ w (A : List Hp), Hd s w (A ++ L) → RdS w v 5 edC es) (h1 : ∀ e ∈ es, oneC e.pv = true) (hb : es.length ≤ 100000) : CC Try.prog 28 [v].toArray w (fun r w' => Hd s w' (Sl r 33 5 es.length (es.flatMap edC) :: L)) := by
  obtain ⟨a, c, rfl⟩ := (hr w [] H).shape
  refine CC.of (N := 8) Try.func28 rfl rfl rfl ?_
  refine WC.seq ?_
  refine WC.region ?_
  refine l_rd rfl rfl (x_assign ev_c) ?_
  refine WL.nil ?_
  refine WC.seq ?_
  refine WC.seq ?_
  refine WC.region ?_
  refine l_rd rfl rfl (x_move (by conv => lhs; whnf)) ?_
  refine l_rdD rfl rfl (x_eqlSN Try.underlying28 rfl) (fun h4 => ?_) (fun h4 => ?_)
  ·
    refine WL.nil ?_
    refine WC.cond1 rfl ?_
    refine WC.seq ?_
    refine WC.region ?_
    refine l_rd rfl rfl (x_assign ev_c) ?_
    refine WL.nil ?_
    refine WC.ret ?_
    refine atRet ?_
    exact RetM.one rfl (by (conv => lhs; whnf); try rfl) (by subst h4; obtain rfl := (hr _ [] H).none; exact Hd.nil H 33 5)
  ·
    refine WL.nil ?_
    refine WC.cond0 rfl ?_
    refine WC.skip ?_
    refine WC.seq ?_
    refine WC.region ?_
    refine l_st rfl (s_build0 Try.underlying28 ty33 H fun b5 w H => ?_)
    refine l_rd rfl rfl (x_move (by conv => lhs; whnf)) ?_
    refine l_st rfl (s_append Try.underlying28 ty33 rfl (by decide) (by decide) rfl 0 rfl rfl rfl (hr _ [_] H) (one_flat h1) (by omega) H fun v7 w H => ?_)
    obtain ⟨a7, c7, rfl⟩ := (H.sl 0 rfl).shape
    refine l_rd rfl rfl (x_assign (by conv => lhs; whnf)) ?_
    refine WL.nil ?_
    refine WC.ret ?_
    refine atRet ?_
    exact RetM.one rfl (by (conv => lhs; whnf); try rfl) (by rw [Nat.zero_add] at H ⊢; exact H)

theorem c44 {h : Nat} {hs : List It} (w : World) (hR : HeapR w h hs) : CC Try.prog 44 [.agg #[.pointer (some ⟨h, 0, none⟩)]].toArray w (fun r w' => r = .tuple #[I (at_ hs 0).1, .bool (decide (hs ≠ []))] ∧ Ext w w') := by
  obtain ⟨w0, e0⟩ : ∃ w0, w0 = w := ⟨w, rfl⟩
  subst e0
  have H := Hd.start w0
  refine CC.of (N := 15) Try.func44 rfl rfl rfl ?_
  refine WC.seq ?_
  refine WC.region ?_
  refine l_st rfl (s_box (by conv => lhs; whnf) H fun b1 w H => ?_)
  refine l_rd rfl rfl (x_assign ev_c) ?_
  refine l_rd rfl rfl (x_assign ev_c) ?_
  refine WL.nil ?_
  refine WC.seq ?_
  refine WC.region ?_
  refine l_rd rfl rfl (x_fieldAddr Try.underlying53 rfl rfl ty50 (by decide) rfl) ?_
  refine l_rd rfl rfl (x_load Try.underlying50 rfl rfl (H.cellL 0 rfl rfl)) ?_
  refine l_st rfl (s_callL cal70 (c70 _ (hR.old (H.old 1 rfl))) ?_)
  rintro _ w ⟨rfl, e1⟩
  have H := H.ext e1
  refine l_rd rfl rfl (x_move (by conv => lhs; whnf)) ?_
  refine l_rd rfl rfl (x_extract rfl rfl) ?_
  refine l_rd rfl rfl (x_extract rfl rfl) ?_
  refine l_st rfl (s_alloc ty69 H fun b4 w H => ?_)
  refine l_no (s_stA 0 rfl ty69 rfl (by conv => lhs; whnf) rfl rfl rfl H fun w H => ?_)
  refine l_rd rfl rfl (x_assign (by conv => lhs; whnf)) ?_
  refine WL.nil ?_
  refine WC.seq ?_
  refine WC.region ?_
  refine l_rd rfl rfl (x_fieldAddr Try.underlying69 rfl rfl ty3 (by decide) rfl) ?_
  refine l_rd rfl rfl (x_load Try.underlying3 rfl rfl (H.cellL 0 rfl rfl)) ?_
  refine l_rd rfl rfl (x_move (by conv => lhs; whnf)) ?_
  refine l_rd rfl rfl (x_assign (by conv => lhs; whnf)) ?_
  refine l_rd rfl rfl (x_assign (by conv => lhs; whnf)) ?_
  refine WL.nil ?_
  refine WC.ret ?_
  refine atRet ?_
  exact RetM.two rfl (by (conv => lhs; whnf); try rfl) (by (conv => lhs; whnf); try rfl) ⟨by rw [← head0], H.below 2 rfl⟩

theorem c31 {B M : Nat} {hp u : Value} {f0 : Nat × Nat} {mes : Array MapEntry} {cl : Nat} {ml : List (Int × Value)} {es : List Ed} {f : Ed} (w : World) (hB : w.heap[B]? = some (.cells #[hp, .map (some M)] 56 f0)) (hm : w.heap[M]? = some (.map mes cl)) (hv : MV TI.kv mes ml) (hu : lkV false (.slice none 0 0) (alook f.time ml) = u) (hr : RdS w u 5 edC es) : CC Try.prog 31 [.pointer (some ⟨B, 0, none⟩), .agg (edC f).toArray].toArray w (fun r w' => r = .tuple #[I (bsF es f 0 es.length), .bool (decide (∃ e, es[bsF es f 0 es.length]? = some e ∧ cmpE e f = 0))] ∧ Ext w w') := by
  obtain ⟨w0, e0⟩ : ∃ w0, w0 = w := ⟨w, rfl⟩
  subst e0
  have H := Hd.start w0
  refine CC.of (N := 17) Try.func31 rfl rfl rfl ?_
  refine WC.seq ?_
  refine WC.region ?_
  refine l_st rfl (s_box (by conv => lhs; whnf) H fun b3 w H => ?_)
  refine l_rd rfl rfl (x_assign ev_c) ?_
  refine l_rd rfl rfl (x_assign ev_c) ?_
  refine WL.nil ?_
  refine WC.seq ?_
  have hB1 := (H.old 1 rfl) _ _ hB
  have hm1 := (H.old 1 rfl) _ _ hm
  refine WC.draw mixed [8] [[], [0], [0, 1], [0, 1, 2], [], [4], [0, 1, 2, 3, 4, 5], [], [0, 1, 2, 3, 4, 5, 6, 7], [0, 1, 2, 3, 4, 5, 6, 7, 8], [0, 1, 2, 3, 4, 5, 6, 7, 8], [0, 1, 2, 3, 4, 5, 6, 7, 8, 9, 10], [0, 1, 2, 3, 4, 5, 6, 7, 8, 9, 10, 11]] [0, 1, 2, 3, 4, 5, 6, 7, 8, 9, 10, 11, 12] (by kernel_rfl) ?_
  have H := H.drew
  refine k_rd rfl rfl (RS.of rfl rfl (x_move (by conv => lhs; whnf))) ?_
  refine k_rd rfl rfl (RS.of rfl rfl (x_nilCheck rfl)) ?_
  refine k_rd rfl rfl (RS.of rfl rfl (x_fieldAddr Try.underlying56 rfl rfl ty54 (by decide) rfl)) ?_
  refine k_rd rfl rfl (RS.of rfl rfl (x_load Try.underlying54 rfl rfl (cell_ofL hB1 rfl))) ?_
  refine k_rd rfl rfl (RS.of rfl rfl (x_fieldAddr Try.underlying33 rfl rfl ty3 (by decide) rfl)) ?_
  refine k_rd rfl rfl (RS.of rfl rfl (x_load Try.underlying3 rfl rfl (H.cellL 0 rfl rfl))) ?_
  refine k_rd rfl rfl (RS.of rfl rfl (x_lookU TI Try.underlying54 ty28 rfl rfl hm1 hv hu)) ?_
  refine k_rd rfl rfl (RS.of rfl rfl (x_loadF (vs := [_, _, _, _, _]) Try.underlying33 rfl ty33 rfl rfl (H.cellsL 0 rfl rfl))) ?_
  refine k_st rfl rfl rfl (s_callL cal57 (c57 (f := f) _ (Old.rdS (H.old 1 rfl) hr)) ?_)
  rintro _ w ⟨rfl, e1⟩
  have H := H.ext e1
  refine ⟨⟨trivial, ⟨trivial, ⟨trivial, ⟨trivial, ⟨trivial, ⟨trivial, ⟨trivial, ⟨trivial, trivial⟩⟩⟩⟩⟩⟩⟩⟩, ?_⟩
  refine k_rd rfl rfl (RS.of rfl rfl (x_extract rfl rfl)) ?_
  refine k_rd rfl rfl (RS.of rfl rfl (x_extract rfl rfl)) ?_
  refine k_rd rfl rfl (RS.of rfl rfl (x_assign (by conv => lhs; whnf))) ?_
  refine k_rd rfl rfl (RS.of rfl rfl (x_assign (by conv => lhs; whnf))) ?_
  show _
  refine WC.ret ?_
  refine atRet ?_
  exact RetM.two rfl (by (conv => lhs; whnf); try rfl) (by (conv => lhs; whnf); try rfl) ⟨rfl, H.below 1 rfl⟩

theorem c42 {B M : Nat} {hp u : Value} {f0 : Nat × Nat} {mes : Array MapEntry} {cl : Nat} {ml : List (Int × Value)} {es : List Ed} {f : Ed} (w : World) (hB : w.heap[B]? = some (.cells #[hp, .map (some M)] 56 f0)) (hm : w.heap[M]? = some (.map mes cl)) (hv : MV TI.kv mes ml) (hu : lkV false (.slice none 0 0) (alook f.time ml) = u) (hr : RdS w u 5 edC es) : CC Try.prog 42 [.pointer (some ⟨B, 0, none⟩), .agg (edC f).toArray].toArray w (fun r w' => r = .bool (decide (∃ e, es[bsF es f 0 es.length]? = some e ∧ cmpE e f = 0)) ∧ Ext w w') := by
  obtain ⟨w0, e0⟩ : ∃ w0, w0 = w := ⟨w, rfl⟩
  subst e0
  have H := Hd.start w0
  refine CC.of (N := 17) Try.func42 rfl rfl rfl ?_
  refine WC.seq ?_
  refine WC.region ?_
  refine l_st rfl (s_box (by conv => lhs; whnf) H fun b3 w H => ?_)
  refine l_rd rfl rfl (x_assign ev_c) ?_
  refine WL.nil ?_
  refine WC.seq ?_
  refine WC.seq ?_
  refine WC.region ?_
  refine l_rd rfl rfl (x_move (by conv => lhs; whnf)) ?_
  refine l_st rfl (s_callL cal26 (c26 _ ((H.old 1 rfl) _ _ hB)) ?_)
  rintro _ w ⟨rfl, e1⟩
  have H := H.ext e1
  refine l_rd rfl rfl (x_not rfl) ?_
  refine WL.nil ?_
  refine WC.cond0 rfl ?_
  refine WC.skip ?_
  refine WC.seq ?_
  refine WC.region ?_
  refine l_rd rfl rfl (x_move (by conv => lhs; whnf)) ?_
  refine l_rd rfl rfl (x_loadF (vs := [_, _, _, _, _]) Try.underlying33 rfl ty33 rfl rfl (H.cellsL 0 rfl rfl)) ?_
  refine l_st rfl (s_callL cal31 (c31 (f := f) _ ((H.old 1 rfl) _ _ hB) ((H.old 1 rfl) _ _ hm) hv hu (Old.rdS (H.old 1 rfl) hr)) ?_)
  rintro _ w ⟨rfl, e1⟩
  have H := H.ext e1
  refine l_rd rfl rfl (x_move (by conv => lhs; whnf)) ?_
  refine l_rd rfl rfl (x_extract rfl rfl) ?_
  refine l_rd rfl rfl (x_extract rfl rfl) ?_
  refine l_rd rfl rfl (x_assign (by conv => lhs; whnf)) ?_
  refine l_rd rfl rfl (x_assign (by conv => lhs; whnf)) ?_
  refine WL.nil ?_
  refine WC.seq ?_
  refine WC.region ?_
  refine l_rd rfl rfl (x_move (by conv => lhs; whnf)) ?_
  refine l_rd rfl rfl (x_assign (by conv => lhs; whnf)) ?_
  refine WL.nil ?_
  refine WC.ret ?_
  refine atRet ?_
  exact RetM.one rfl (by (conv => lhs; whnf); try rfl) ⟨rfl, H.below 1 rfl⟩

end Go.Proofs.Ytahdodijpmkddaa
set_option linter.unusedVariables false
set_option linter.unusedSimpArgs false
namespace Go.Proofs.Ytahdodijpmkddaa
open Go Go.RowKit KE Go.Proofs
theorem cal34 : Cal Try.prog 34 := ⟨_, Try.func34, rfl, by decide⟩

theorem sub_len {α : Type} [DecidableEq α] : ∀ {l1 l2 : List α}, l1.Nodup → (∀ x ∈ l1, x ∈ l2) → l1.length ≤ l2.length
  | [], _, _, _ => by simp
  | a :: l1, l2, h1, h2 => by
    have hm := List.perm_cons_erase (h2 a List.mem_cons_self)
    have hn := List.nodup_cons.1 h1
    have := sub_len (l1 := l1) (l2 := l2.erase a) hn.2 fun x hx => by
      have hxa : x ≠ a := fun e => hn.1 (e ▸ hx)
      exact (List.mem_erase_of_ne hxa).2 (h2 x (List.mem_cons_of_mem _ hx))
    rw [hm.length_eq]; simp; omega
theorem BufI.hlen {g : Sub} {V : List Eg} {hs : List It} {tb : Tb} (hI : BufI g V hs tb) : hs.length ≤ 1000 := by
  have h1 : hs.length = (keys tb).length := by rw [← hI.hk.length_eq]; simp
  have h2 : (keys tb).length ≤ (V.map (·.time)).length := sub_len hI.nd fun t ht => by
    obtain ⟨p, hp, rfl⟩ := List.mem_map.1 ht
    obtain ⟨e1, e2⟩ := hI.ent p hp
    obtain ⟨y, hy⟩ := List.exists_mem_of_ne_nil _ (fun h => e1 (e2.nil_iff.2 h))
    obtain ⟨hy1, hy2⟩ := List.mem_filter.1 hy
    exact List.mem_map.2 ⟨y, hy1, of_decide_eq_true hy2⟩
  have := hI.len
  simp only [List.length_map] at h2 ⊢
  rw [h1]; simp only [List.length_map]; omega
theorem take_keys {hs ys : List It} {tb rest : Tb} {t : Int} {u : Value} {es : List Ed} (hk : (hs.map (·.1)).Perm (keys tb)) (htb : tb.Perm ((t, u, es) :: rest)) (hP : (at_ hs 0 :: ys).Perm hs) (hft : (at_ hs 0).1 = t) : (ys.map (·.1)).Perm (keys rest) := by
  have h1 : ((at_ hs 0 :: ys).map (·.1)).Perm (hs.map (·.1)) := hP.map _
  rw [List.map_cons, hft] at h1
  have h2 : (keys tb).Perm (t :: keys rest) := htb.map _
  exact (List.perm_cons _).1 ((h1.trans hk).trans h2)
theorem c45 {s : Sy} {L : List Hp} {g : Sub} {B : Nat} {t : Int} {V : List Eg} {x : Eg} (w : World) (H : Hd s w (BufP g B (x :: V) :: fz g :: L)) (ht : t = x.time) : CC Try.prog 45 [.pointer (some ⟨B, 0, none⟩), I t].toArray w (fun r w' => ∃ e : Ed, r = .agg (edC e).toArray ∧ kk e = kE x ∧ Hd s w' (Sl e.pv 86 4 x.props.length (x.props.flatMap prC) :: BufP g B V :: fz g :: L)) := by
  subst ht
  obtain ⟨h, M, hs, tb, hI, H⟩ := BufP.opn H
  obtain ⟨u, es0, rest, hu, hes0, hr, hrn, hrm, hne, -, hop, -, hup, hdel⟩ := tb_get hI x.time
  have hF : (x :: V).filter (tm x.time) = x :: V.filter (tm x.time) := List.filter_cons_of_pos (by simp [tm])
  obtain ⟨e, es, rfl⟩ : ∃ e es, es0 = e :: es := by
    cases es0 with
    | nil => rw [hF] at hes0; exact hes0.elim
    | cons e es => exact ⟨e, es, rfl⟩
  have he : ER g e x := by rw [hF] at hes0; exact hes0.1
  have H := hop (Hd.arrT [_, _, _, _] [3, 0, 1, 2] (by decide) rfl H)
  have H : Hd s w (Sl u 33 5 (e :: es).length ((e :: es).flatMap edC) :: ot rest :: _ :: Mp TI M (mlo tb) :: HeapP h hs :: fz g :: L) := H
  obtain ⟨a, c, rfl⟩ := (H.sl 0 rfl).shape
  have hcap := (Hd.cap H 0 rfl).1
  obtain ⟨b1, o1, rfl, -⟩ := (show RdS w _ 5 edC (e :: es) from H.sl 0 rfl).el edC_len (show (e :: es)[0]? = some e from rfl)
  obtain ⟨hne0, hft⟩ := hI.first
  have hln : hs.length = hs.length - 1 + 1 := by have := List.length_pos_iff.2 hne0; omega
  have hlb := hI.hlen
  have hl1 : (e :: es).length = es.length + 1 := rfl
  refine CC.of (N := 37) Try.func45 rfl rfl rfl ?_
  refine WC.seq ?_
  refine WC.region ?_
  refine l_st rfl (s_alloc ty33 H fun b4 w H => ?_)
  refine WL.nil ?_
  refine WC.seq ?_
  obtain ⟨mes, cl, hm, hv⟩ := Mp.obj TI H 4 rfl
  refine WC.region ?_
  refine l_rd rfl rfl (x_move (by conv => lhs; whnf)) ?_
  refine l_rd rfl rfl (x_nilCheck rfl) ?_
  refine l_rd rfl rfl (x_fieldAddr Try.underlying56 rfl rfl ty54 (by decide) rfl) ?_
  refine l_rd rfl rfl (x_load Try.underlying54 rfl rfl (H.cellL 3 rfl rfl)) ?_
  refine l_rd rfl rfl (x_move (by conv => lhs; whnf)) ?_
  refine l_rd rfl rfl (x_lookU TI Try.underlying54 ty28 rfl rfl hm hv hu) ?_
  refine l_rd rfl rfl (x_assign (by conv => lhs; whnf)) ?_
  refine WL.nil ?_
  refine WC.seq ?_
  refine WC.draw mixed [7] [[], [0], [0, 1], [0, 1, 2], [], [], [5], [0, 1, 2, 3, 4, 5, 6]] [0, 1, 2, 3, 4, 5, 6, 7] (by kernel_rfl) ?_
  have H := H.drew
  refine k_rd rfl rfl (RS.of rfl rfl (x_move (by conv => lhs; whnf))) ?_
  refine k_rd rfl rfl (RS.of rfl rfl (x_nilCheck rfl)) ?_
  refine k_rd rfl rfl (RS.of rfl rfl (x_fieldAddr Try.underlying56 rfl rfl ty54 (by decide) rfl)) ?_
  refine k_rd rfl rfl (RS.of rfl rfl (x_load Try.underlying54 rfl rfl (H.cellL 3 rfl rfl))) ?_
  refine k_rd rfl rfl (RS.of rfl rfl (x_move (by conv => lhs; whnf))) ?_
  refine k_rd rfl rfl (RS.of rfl rfl (x_move (by conv => lhs; whnf))) ?_
  refine k_rd rfl rfl (RS.of rfl rfl (x_sliceFromB (i := 1) Try.underlying28 ty33 rfl rfl (by omega) (by omega))) ?_
  refine k_no rfl rfl rfl (s_mapUpdate TI Try.underlying54 4 rfl rfl rfl (by conv => lhs; whnf) H fun w H => ⟨⟨trivial, ⟨trivial, ⟨trivial, ⟨trivial, ⟨trivial, ⟨trivial, ⟨trivial, trivial⟩⟩⟩⟩⟩⟩⟩, ?_⟩)
  show _
  refine WC.seq ?_
  refine WC.seq ?_
  refine WC.region ?_
  refine l_rd rfl rfl (x_move (by conv => lhs; whnf)) ?_
  refine l_rd rfl rfl (x_lenSlice Try.underlying28 rfl rfl) ?_
  refine l_rdD rfl rfl (x_eql rfl rfl) (fun h21 => ?_) (fun h21 => ?_)
  ·
    refine WL.nil ?_
    refine WC.cond1 rfl ?_
    refine WC.seq ?_
    refine WC.region ?_
    refine l_rd rfl rfl (x_move (by conv => lhs; whnf)) ?_
    refine l_rd rfl rfl (x_nilCheck rfl) ?_
    refine l_rd rfl rfl (x_fieldAddr Try.underlying56 rfl rfl ty53 (by decide) rfl) ?_
    refine l_rd rfl rfl (x_fieldAddr Try.underlying53 rfl rfl ty50 (by decide) rfl) ?_
    refine l_rd rfl rfl (x_load Try.underlying50 rfl rfl (H.cellL 3 rfl rfl)) ?_
    refine l_st rfl (s_callL cal71 (c71 (n := hs.length - 1) _ (H.pick 5 rfl) hI.heap hln (by omega)) ?_)
    rintro _ w ⟨ys, rfl, hH, hP, H⟩
    refine WL.nil ?_
    refine WC.region ?_
    refine l_rd rfl rfl (x_move (by conv => lhs; whnf)) ?_
    refine l_rd rfl rfl (x_nilCheck rfl) ?_
    refine l_rd rfl rfl (x_fieldAddr Try.underlying56 rfl rfl ty54 (by decide) rfl) ?_
    refine l_rd rfl rfl (x_load Try.underlying54 rfl rfl (H.cellL 4 rfl rfl)) ?_
    refine l_rd rfl rfl (x_move (by conv => lhs; whnf)) ?_
    refine l_no (s_delete TI Try.underlying54 rfl 5 rfl rfl rfl H (fun w H => ?_))
    refine WL.nil ?_
    refine WC.seq ?_
    refine WC.region ?_
    refine l_rd rfl rfl (x_move (by conv => lhs; whnf)) ?_
    refine l_rd rfl rfl (x_indexAddr Try.underlying28 ty33 rfl rfl (by omega) (by omega)) ?_
    refine l_rd rfl rfl (x_loadF (vs := [_, _, _, _, _]) Try.underlying33 rfl ty33 rfl rfl (sub_row 0 (RdS.at edC_len (show RdS _ _ 5 edC (e :: es) from H.sl 2 rfl) (show (e :: es)[0]? = some e from rfl)) rfl)) ?_
    refine l_st rfl (s_callL cal34 (c34 (e := e) _ H (fun w A h => he.2.2.in h (List.mem_append_right _ ((List.mem_cons_of_mem _ (List.mem_cons_of_mem _ (List.mem_cons_of_mem _ (List.mem_cons_of_mem _ (List.mem_cons_of_mem _ (List.mem_cons_of_mem _ List.mem_cons_self))))))))) (hI.pl x List.mem_cons_self)) ?_)
    rintro _ w ⟨pv, rfl, H⟩
    obtain ⟨pa, pc, rfl⟩ := (H.sl 0 rfl).shape
    refine l_no (s_stA 2 rfl ty33 rfl (by conv => lhs; whnf) rfl rfl rfl H fun w H => ?_)
    refine WL.nil ?_
    refine WC.ret ?_
    refine atRet ?_
    refine RetM.cell1A (vs := [_, _, _, _, _]) rfl rfl Try.underlying33 rfl ty33 rfl (H.cellsL 2 rfl rfl) ⟨{ e with pv := .slice pa x.props.length pc }, rfl, he.1, ?_⟩
    have hes : es = [] := List.eq_nil_of_length_eq_zero (by simp only [List.length_cons] at h21; omega)
    have H := Hd.arrT [_, _, _, _, _, _, _, _] [5, 6, 1, 4, 0, 7] (by decide) rfl H
    have H : Hd s _ (_ :: Mp TI M (adel x.time (aset x.time _ (mlo tb))) :: HeapP h ys :: ot rest :: _ :: fz g :: L) := H
    rw [hdel (by simp)] at H
    have hI2 := hI.take (v' := .bool true) hes0 hr hrn hrm (hne (by simp)) hH (.inr ⟨hes, rfl, take_keys hI.hk (hne (by simp)) hP hft⟩)
    exact (BufP.mk hI2 H).swp
  ·
    refine WL.nil ?_
    refine WC.cond0 rfl ?_
    refine WC.skip ?_
    refine WC.seq ?_
    refine WC.region ?_
    refine l_rd rfl rfl (x_move (by conv => lhs; whnf)) ?_
    refine l_rd rfl rfl (x_indexAddr Try.underlying28 ty33 rfl rfl (by omega) (by omega)) ?_
    refine l_rd rfl rfl (x_loadF (vs := [_, _, _, _, _]) Try.underlying33 rfl ty33 rfl rfl (sub_row 0 (RdS.at edC_len (show RdS _ _ 5 edC (e :: es) from H.sl 1 rfl) (show (e :: es)[0]? = some e from rfl)) rfl)) ?_
    refine l_st rfl (s_callL cal34 (c34 (e := e) _ H (fun w A h => he.2.2.in h (List.mem_append_right _ ((List.mem_cons_of_mem _ (List.mem_cons_of_mem _ (List.mem_cons_of_mem _ (List.mem_cons_of_mem _ (List.mem_cons_of_mem _ (List.mem_cons_of_mem _ List.mem_cons_self))))))))) (hI.pl x List.mem_cons_self)) ?_)
    rintro _ w ⟨pv, rfl, H⟩
    obtain ⟨pa, pc, rfl⟩ := (H.sl 0 rfl).shape
    refine l_no (s_stA 1 rfl ty33 rfl (by conv => lhs; whnf) rfl rfl rfl H fun w H => ?_)
    refine WL.nil ?_
    refine WC.ret ?_
    refine atRet ?_
    refine RetM.cell1A (vs := [_, _, _, _, _]) rfl rfl Try.underlying33 rfl ty33 rfl (H.cellsL 1 rfl rfl) ⟨{ e with pv := .slice pa x.props.length pc }, rfl, he.1, ?_⟩
    have hes : es ≠ [] := by rintro rfl; exact h21 rfl
    have H := Hd.arrT [_, _, _, _, _, _, _, _] [2, 3, 4, 5, 6, 0, 7] (by decide) rfl H
    have H := Hd.behead (k := 1) H (by simp)
    obtain ⟨tb2, ht1, ht2, ht3⟩ := hup (.slice (some (if c = 1 then ⟨b1, o1, none⟩ else ⟨b1, o1 + 1 * 5, none⟩)) ((e :: es).length - 1) (c - 1)) es
    have H := ht3 H
    have H := Hd.arrT [_, _, _, _, _, _] [1, 2, 3, 0, 4, 5] (by decide) rfl H
    have H : Hd s _ (_ :: Mp TI M (aset x.time _ (mlo tb)) :: HeapP h hs :: ot tb2 :: _ :: fz g :: L) := H
    rw [ht1] at H
    have hI2 := hI.take hes0 hr hrn hrm (hne (by simp)) hI.heap (.inl ⟨hes, ht2, rfl⟩)
    exact (BufP.mk hI2 H).swp

end Go.Proofs.Ytahdodijpmkddaa
set_option linter.unusedVariables false
set_option linter.unusedSimpArgs false
namespace Go.Proofs.Ytahdodijpmkddaa
open Go Go.RowKit KE Go.Proofs
theorem cal30 : Cal Try.prog 30 := ⟨_, Try.func30, rfl, by decide⟩
theorem cal33 : Cal Try.prog 33 := ⟨_, Try.func33, rfl, by decide⟩

noncomputable def putR (V : List Eg) (x : Eg) : Int := if chk x.src x.dst x.lab x.time x.props ≠ 0 then chk x.src x.dst x.lab x.time x.props else if ∃ y ∈ V, like y x then 9 else 0
noncomputable def putV (V : List Eg) (x : Eg) : List Eg := if chk x.src x.dst x.lab x.time x.props = 0 ∧ ¬ ∃ y ∈ V, like y x then insV x V else V
theorem bs_kk {es : List Ed} {e f : Ed} (h : kk e = kk f) : ∀ {i j : Nat}, bsF es e i j = bsF es f i j := by
  have hc : ∀ x, cmpE x e = cmpE x f := fun x => by rw [← cmp_kk, h, cmp_kk]
  have : ∀ (n i j : Nat), j - i = n → bsF es e i j = bsF es f i j := by
    intro n
    induction n using Nat.strongRecOn with
    | ind n ih =>
      intro i j hn
      conv => lhs; rw [bsF]
      conv => rhs; rw [bsF]
      by_cases hij : i < j
      · rw [dif_pos hij, dif_pos hij]
        simp only [hc]
        split
        · exact ih _ (by omega) _ _ rfl
        · exact ih _ (by omega) _ _ rfl
      · rw [dif_neg hij, dif_neg hij]
  exact fun {i j} => this _ i j rfl
theorem chk_time {s d l : ByteArray} {t : Int} {xs : List Pr} (h : chk s d l t xs = 0) : t ≤ 1099511627776 := by
  unfold chk at h
  split at h
  · split at h
    · rename_i h2; exact h2.2
    · cases h
  · cases h
theorem one_cons {e : Ed} {es : List Ed} (h : oneC e.pv = true) (h2 : ∀ y ∈ es, oneC y.pv = true) : ∀ y ∈ e :: es, oneC y.pv = true := fun y hy => by
  rcases List.mem_cons.1 hy with rfl | hy
  · exact h
  · exact h2 y hy
theorem ins_len {es : List Ed} {e : Ed} {k : Nat} (h : k ≤ es.length) : (es.take k ++ e :: es.drop k).length = es.length + 1 := by simp; omega
theorem put_keys1 {hs ys : List It} {tb : Tb} {t : Int} (hk : (hs.map (·.1)).Perm (keys tb)) (hp : ys.Perm ((t, 0) :: hs)) : (ys.map (·.1)).Perm (t :: keys tb) := (show (ys.map (·.1)).Perm (((t, (0 : Int)) :: hs).map (·.1)) from hp.map _).trans (hk.cons t)
theorem put_keys2 {hs : List It} {tb rest : Tb} {t : Int} {u : Value} {es : List Ed} (hk : (hs.map (·.1)).Perm (keys tb)) (htb : tb.Perm ((t, u, es) :: rest)) : (hs.map (·.1)).Perm (t :: keys rest) := hk.trans (htb.map _)
theorem put_cov {g : Sub} {V : List Eg} {hs : List It} {tb rest : Tb} {t : Int} {u : Value} {es : List Ed} (hI : BufI g V hs tb) (htb : tb.Perm ((t, u, es) :: rest)) : ∀ y ∈ V, y.time = t ∨ y.time ∈ keys rest := fun y hy => by
  have h2 : (keys tb).Perm (t :: keys rest) := htb.map _
  exact List.mem_cons.1 (h2.mem_iff.1 (hI.cov y hy))
theorem c14 {s : Sy} {L : List Hp} {g : Sub} {B : Nat} {V : List Eg} {x : Eg} {fv : Value} (w : World) (H : Hd s w (BufP g B V :: fz g :: L)) (hr : ∀ w (A : List Hp), Hd s w (A ++ L) → RdS w fv 4 prC x.props) (hsz : ∀ p ∈ x.props, p.key.size ≤ 140737488355328 ∧ p.text.size ≤ 140737488355328) (hb : x.props.length ≤ 1000) (hl : V.length < 1000) : CC Try.prog 14 [.pointer (some ⟨B, 0, none⟩), .agg (edC ⟨x.src, x.dst, x.lab, x.time, fv⟩).toArray].toArray w (fun r w' => ∃ g2, sle g g2 ∧ r = I (putR V x) ∧ Hd s w' (BufP g2 B (putV V x) :: fz g2 :: L)) := by
  obtain ⟨h, M, hs, tb, hI, H⟩ := BufP.opn H
  obtain ⟨u, es, rest, hu, hes0, hr0, hrn, hrm, hne, hnil, hop, -, hup, -⟩ := tb_get hI x.time
  have hsF : es.Pairwise ahd := hes0.ahds.2 (hI.srt.filter _)
  have H0 := hop (Hd.arrT [_, _, _, _] [3, 0, 1, 2] (by decide) rfl H)
  have H0 : Hd s w (Sl u 33 5 es.length (es.flatMap edC) :: ot rest :: _) := H0
  obtain ⟨a, c, rfl⟩ := (H0.sl 0 rfl).shape
  have hlb := hI.hlen
  have hel : es.length ≤ 1000 := by rw [hes0.len]; exact Nat.le_trans (List.length_filter_le _ _) hI.len
  clear H0
  refine CC.of (N := 60) Try.func14 rfl rfl rfl ?_
  refine WC.seq ?_
  refine WC.region ?_
  refine l_st rfl (s_box (by conv => lhs; whnf) H fun b3 w H => ?_)
  refine l_rd rfl rfl (x_assign ev_c) ?_
  refine WL.nil ?_
  refine WC.seq ?_
  refine WC.seq ?_
  refine WC.region ?_
  refine l_rd rfl rfl (x_move (by conv => lhs; whnf)) ?_
  refine l_st rfl (s_callL cal26 (c26 _ (H.obj 1 rfl)) ?_)
  rintro _ w ⟨rfl, e1⟩
  have H := H.ext e1
  refine l_rd rfl rfl (x_not rfl) ?_
  refine WL.nil ?_
  refine WC.cond0 rfl ?_
  refine WC.skip ?_
  refine WC.seq ?_
  refine WC.seq ?_
  refine WC.region ?_
  refine l_rd rfl rfl (x_loadF (vs := [_, _, _, _, _]) Try.underlying33 rfl ty33 rfl rfl (H.cellsL 0 rfl rfl)) ?_
  refine l_st rfl (s_callL cal30 (c30 (e := ⟨x.src, x.dst, x.lab, x.time, fv⟩) (xs := x.props) _ (hr _ [_, _, _, _, _, _] H) hsz) ?_)
  rintro _ w ⟨rfl, e1⟩
  have H := H.ext e1
  refine l_rd rfl rfl (x_assign (by conv => lhs; whnf)) ?_
  refine WL.nil ?_
  refine WC.seq ?_
  refine WC.region ?_
  refine l_rd rfl rfl (x_move (by conv => lhs; whnf)) ?_
  refine l_rdD rfl rfl (x_neq rfl rfl) (fun h14 => ?_) (fun h14 => ?_)
  ·
    refine WL.nil ?_
    refine WC.cond1 rfl ?_
    refine WC.seq ?_
    refine WC.region ?_
    refine l_rd rfl rfl (x_move (by conv => lhs; whnf)) ?_
    refine l_rd rfl rfl (x_assign (by conv => lhs; whnf)) ?_
    refine WL.nil ?_
    refine WC.ret ?_
    refine atRet ?_
    exact RetM.one rfl (by (conv => lhs; whnf); try rfl) (⟨g, sle.refl g, by rw [putR, if_pos h14], by rw [putV, if_neg (fun q => h14 q.1)]; exact BufP.mk hI (Hd.arrT [_, _, _, _, _, _] [1, 2, 3, 4, 5] (by decide) rfl H)⟩)
  ·
    refine WL.nil ?_
    refine WC.cond0 rfl ?_
    refine WC.skip ?_
    refine WC.seq ?_
    have hB := H.obj 1 rfl
    obtain ⟨mes, cl, hm, hv⟩ := Mp.obj TI H 2 rfl
    have hrd : RdS w (.slice a es.length c) 5 edC es := (hop (Hd.arrT [_, _, _, _, _, _] [4, 0, 1, 2, 3, 5] (by decide) rfl H)).sl 0 rfl
    by_cases hlk : ∃ y ∈ V, like y x
    ·
      refine WC.region ?_
      refine l_rd rfl rfl (x_move (by conv => lhs; whnf)) ?_
      refine l_rd rfl rfl (x_loadF (vs := [_, _, _, _, _]) Try.underlying33 rfl ty33 rfl rfl (H.cellsL 0 rfl rfl)) ?_
      refine l_st rfl (s_callL cal31 (c31 (f := ⟨x.src, x.dst, x.lab, x.time, fv⟩) _ hB hm hv hu hrd) ?_)
      rintro r w ⟨hr1, e1⟩
      have H := H.ext e1
      obtain rfl : r = .tuple #[I (bsF es ⟨x.src, x.dst, x.lab, x.time, fv⟩ 0 es.length), .bool true] := hr1.trans (by rw [decide_eq_true ((bs_found hsF).2 ((like_in rfl hes0).2 hlk))])
      refine l_rd rfl rfl (x_move (by conv => lhs; whnf)) ?_
      refine l_rd rfl rfl (x_extract rfl rfl) ?_
      refine l_rd rfl rfl (x_extract rfl rfl) ?_
      refine l_rd rfl rfl (x_assign (by conv => lhs; whnf)) ?_
      refine l_rd rfl rfl (x_assign (by conv => lhs; whnf)) ?_
      refine WL.nil ?_
      refine WC.seq ?_
      refine WC.seq ?_
      refine WC.region ?_
      refine l_rd rfl rfl (x_move (by conv => lhs; whnf)) ?_
      refine WL.nil ?_
      refine WC.cond1 rfl ?_
      refine WC.seq ?_
      refine WC.region ?_
      refine l_rd rfl rfl (x_assign ev_c) ?_
      refine WL.nil ?_
      refine WC.ret ?_
      refine atRet ?_
      exact RetM.one rfl (by (conv => lhs; whnf); try rfl) (⟨g, sle.refl g, by rw [putR, if_neg h14, if_pos hlk], by rw [putV, if_neg (fun q => q.2 hlk)]; exact BufP.mk hI (Hd.arrT [_, _, _, _, _, _] [1, 2, 3, 4, 5] (by decide) rfl H)⟩)
    ·
      have hins := bs_ins (f := ⟨x.src, x.dst, x.lab, x.time, fv⟩) hsF (fun h => hlk ((like_in rfl hes0).1 h))
      refine WC.region ?_
      refine l_rd rfl rfl (x_move (by conv => lhs; whnf)) ?_
      refine l_rd rfl rfl (x_loadF (vs := [_, _, _, _, _]) Try.underlying33 rfl ty33 rfl rfl (H.cellsL 0 rfl rfl)) ?_
      refine l_st rfl (s_callL cal31 (c31 (f := ⟨x.src, x.dst, x.lab, x.time, fv⟩) _ hB hm hv hu hrd) ?_)
      rintro r w ⟨hr1, e1⟩
      have H := H.ext e1
      obtain rfl : r = .tuple #[I (bsF es ⟨x.src, x.dst, x.lab, x.time, fv⟩ 0 es.length), .bool false] := hr1.trans (by rw [decide_eq_false (fun h => hlk ((like_in rfl hes0).1 ((bs_found hsF).1 h)))])
      refine l_rd rfl rfl (x_move (by conv => lhs; whnf)) ?_
      refine l_rd rfl rfl (x_extract rfl rfl) ?_
      refine l_rd rfl rfl (x_extract rfl rfl) ?_
      refine l_rd rfl rfl (x_assign (by conv => lhs; whnf)) ?_
      refine l_rd rfl rfl (x_assign (by conv => lhs; whnf)) ?_
      refine WL.nil ?_
      refine WC.seq ?_
      refine WC.seq ?_
      refine WC.region ?_
      refine l_rd rfl rfl (x_move (by conv => lhs; whnf)) ?_
      refine WL.nil ?_
      refine WC.cond0 rfl ?_
      refine WC.skip ?_
      refine WC.seq ?_
      refine WC.seq ?_
      refine WC.draw mixed [] [[], [0], [0, 1], [0, 1, 2], [], [4], [0, 1, 2, 3, 4, 5], [0, 1, 2, 3, 4, 5, 6], [0, 1, 2, 3, 4, 5, 6, 7]] [0, 1, 2, 3, 4, 5, 6, 7, 8] (by kernel_rfl) ?_
      have H := H.drew
      refine k_rd rfl rfl (RS.of rfl rfl (x_move (by conv => lhs; whnf))) ?_
      refine k_rd rfl rfl (RS.of rfl rfl (x_nilCheck rfl)) ?_
      refine k_rd rfl rfl (RS.of rfl rfl (x_fieldAddr Try.underlying56 rfl rfl ty54 (by decide) rfl)) ?_
      refine k_rd rfl rfl (RS.of rfl rfl (x_load Try.underlying54 rfl rfl (H.cellL 1 rfl rfl))) ?_
      refine k_rd rfl rfl (RS.of rfl rfl (x_fieldAddr Try.underlying33 rfl rfl ty3 (by decide) rfl)) ?_
      refine k_rd rfl rfl (RS.of rfl rfl (x_load Try.underlying3 rfl rfl (H.cellL 0 rfl rfl))) ?_
      refine k_rd rfl rfl (RS.of rfl rfl (x_lookM TI Try.underlying54 ty28 rfl rfl H 2 rfl hu)) ?_
      refine k_rd rfl rfl (RS.of rfl rfl (x_lenSlice Try.underlying28 rfl rfl)) ?_
      refine k_rdD rfl rfl rfl rfl (x_eql rfl rfl) (fun h31 => ?_) (fun h31 => ?_)
      ·
        show _
        refine WC.cond1 rfl ?_
        refine WC.draw mixed [8, 9] [[], [0], [0, 1], [0, 1, 2], [0, 1, 2, 3], [], [5], [5, 6], [5, 6, 7], [0, 1, 2, 3, 4, 5, 6, 7, 8]] [0, 1, 2, 3, 4, 5, 6, 7, 8, 9] (by kernel_rfl) ?_
        have H := H.drew
        refine k_rd rfl rfl (RS.of rfl rfl (x_move (by conv => lhs; whnf))) ?_
        refine k_rd rfl rfl (RS.of rfl rfl (x_nilCheck rfl)) ?_
        refine k_rd rfl rfl (RS.of rfl rfl (x_fieldAddr Try.underlying56 rfl rfl ty53 (by decide) rfl)) ?_
        refine k_rd rfl rfl (RS.of rfl rfl (x_fieldAddr Try.underlying53 rfl rfl ty50 (by decide) rfl)) ?_
        refine k_rd rfl rfl (RS.of rfl rfl (x_load Try.underlying50 rfl rfl (H.cellL 1 rfl rfl))) ?_
        refine k_rd rfl rfl (RS.of rfl rfl (x_fieldAddr Try.underlying33 rfl rfl ty3 (by decide) rfl)) ?_
        refine k_rd rfl rfl (RS.of rfl rfl (x_load Try.underlying3 rfl rfl (H.cellL 0 rfl rfl))) ?_
        refine k_rd rfl rfl (RS.of rfl rfl (x_buildL (pl := [(0, 1), (1, 1)]) (cells := [I x.time, I 0]) Try.underlying69 ty69 (by kernel_rfl) rfl)) ?_
        refine k_st rfl rfl rfl (s_build1A Try.underlying76 ty69 rfl (by decide) (by decide) (by conv => lhs; whnf) rfl H fun b40 w H => ⟨⟨trivial, ⟨trivial, ⟨trivial, ⟨RS.of rfl rfl (x_load Try.underlying50 rfl rfl (H.cellL 2 rfl rfl)), ⟨RS.of rfl rfl (x_fieldAddr Try.underlying53 rfl rfl ty50 (by decide) rfl), ⟨RS.of rfl rfl (x_fieldAddr Try.underlying56 rfl rfl ty53 (by decide) rfl), ⟨RS.of rfl rfl (x_nilCheck rfl), ⟨RS.of rfl rfl (x_move (by (conv => lhs; whnf); try rfl)), trivial⟩⟩⟩⟩⟩⟩⟩⟩, ?_⟩)
        refine k_st rfl rfl rfl (s_callL cal32 (c32 (js := [(x.time, 0)]) _ (H.pick 4 rfl) (fun w A h => sl_in h (List.mem_append_right _ (List.mem_cons_self))) (by simp; omega)) ?_)
        rintro _ w ⟨rfl, H⟩
        refine ⟨⟨trivial, ⟨trivial, ⟨trivial, ⟨trivial, ⟨trivial, ⟨trivial, ⟨trivial, ⟨trivial, trivial⟩⟩⟩⟩⟩⟩⟩⟩, ?_⟩
        show _
        refine WC.seq ?_
        have H := hop (Hd.arrT [_, _, _, _, _, _, _] [5, 0, 1, 2, 3, 4, 6] (by decide) rfl H)
        have H : Hd s w (Sl (.slice a es.length c) 33 5 es.length (es.flatMap edC) :: ot rest :: _) := H
        refine WC.draw mixed [15, 16, 17, 18] [[], [0], [0, 1], [0, 1, 2], [], [4], [], [6], [6, 7], [6, 7, 8], [], [10], [6, 7, 8, 9, 10, 11], [], [], [14], [14, 15], [6, 7, 8, 9, 10, 11, 12, 13, 14, 15, 16], [0, 1, 2, 3, 4, 5, 6, 7, 8, 9, 10, 11, 12, 13, 14, 15, 16, 17]] [0, 1, 2, 3, 4, 5, 6, 7, 8, 9, 10, 11, 12, 13, 14, 15, 16, 17, 18] (by kernel_rfl) ?_
        have H := H.drew
        refine k_rd rfl rfl (RS.of rfl rfl (x_move (by conv => lhs; whnf))) ?_
        refine k_rd rfl rfl (RS.of rfl rfl (x_nilCheck rfl)) ?_
        refine k_rd rfl rfl (RS.of rfl rfl (x_fieldAddr Try.underlying56 rfl rfl ty54 (by decide) rfl)) ?_
        refine k_rd rfl rfl (RS.of rfl rfl (x_load Try.underlying54 rfl rfl (H.cellL 5 rfl rfl))) ?_
        refine k_rd rfl rfl (RS.of rfl rfl (x_fieldAddr Try.underlying33 rfl rfl ty3 (by decide) rfl)) ?_
        refine k_rd rfl rfl (RS.of rfl rfl (x_load Try.underlying3 rfl rfl (H.cellL 4 rfl rfl))) ?_
        refine k_rd rfl rfl (RS.of rfl rfl (x_move (by conv => lhs; whnf))) ?_
        refine k_rd rfl rfl (RS.of rfl rfl (x_nilCheck rfl)) ?_
        refine k_rd rfl rfl (RS.of rfl rfl (x_fieldAddr Try.underlying56 rfl rfl ty54 (by decide) rfl)) ?_
        refine k_rd rfl rfl (RS.of rfl rfl (x_load Try.underlying54 rfl rfl (H.cellL 5 rfl rfl))) ?_
        refine k_rd rfl rfl (RS.of rfl rfl (x_fieldAddr Try.underlying33 rfl rfl ty3 (by decide) rfl)) ?_
        refine k_rd rfl rfl (RS.of rfl rfl (x_load Try.underlying3 rfl rfl (H.cellL 4 rfl rfl))) ?_
        refine k_rd rfl rfl (RS.of rfl rfl (x_lookM TI Try.underlying54 ty28 rfl rfl H 6 rfl hu)) ?_
        refine k_rd rfl rfl (RS.of rfl rfl (x_move (by conv => lhs; whnf))) ?_
        refine k_rd rfl rfl (RS.of rfl rfl (x_loadF (vs := [_, _, _, _, _]) Try.underlying33 rfl ty33 rfl rfl (H.cellsL 4 rfl rfl))) ?_
        refine k_st rfl rfl rfl (s_callL cal34 (c34 (e := ⟨x.src, x.dst, x.lab, x.time, fv⟩) _ H (fun w A h => hr w (A ++ [_, _, _, _, _, _, _, _]) (by rw [List.append_assoc]; exact h)) hb) ?_)
        rintro _ w ⟨pv, rfl, H⟩
        obtain ⟨pa, pc, rfl⟩ := (H.sl 0 rfl).shape
        refine ⟨⟨trivial, ⟨RS.of rfl rfl (x_move (by (conv => lhs; whnf); try rfl)), ⟨RS.of rfl rfl (x_lookM TI Try.underlying54 ty28 rfl rfl H 7 rfl hu), ⟨RS.of rfl rfl (x_load Try.underlying3 rfl rfl (H.cellL 5 rfl rfl)), ⟨RS.of rfl rfl (x_fieldAddr Try.underlying33 rfl rfl ty3 (by decide) rfl), ⟨RS.of rfl rfl (x_load Try.underlying54 rfl rfl (H.cellL 6 rfl rfl)), ⟨RS.of rfl rfl (x_fieldAddr Try.underlying56 rfl rfl ty54 (by decide) rfl), ⟨RS.of rfl rfl (x_nilCheck rfl), ⟨RS.of rfl rfl (x_move (by (conv => lhs; whnf); try rfl)), ⟨RS.of rfl rfl (x_load Try.underlying3 rfl rfl (H.cellL 5 rfl rfl)), ⟨RS.of rfl rfl (x_fieldAddr Try.underlying33 rfl rfl ty3 (by decide) rfl), ⟨RS.of rfl rfl (x_load Try.underlying54 rfl rfl (H.cellL 6 rfl rfl)), ⟨RS.of rfl rfl (x_fieldAddr Try.underlying56 rfl rfl ty54 (by decide) rfl), ⟨RS.of rfl rfl (x_nilCheck rfl), ⟨RS.of rfl rfl (x_move (by (conv => lhs; whnf); try rfl)), trivial⟩⟩⟩⟩⟩⟩⟩⟩⟩⟩⟩⟩⟩⟩⟩, ?_⟩
        refine k_st rfl rfl rfl (s_build1A Try.underlying28 ty33 rfl (by decide) (by decide) (by conv => lhs; whnf) rfl H fun b58 w H => ⟨⟨trivial, ⟨RS.of rfl rfl (x_move (by (conv => lhs; whnf); try rfl)), ⟨RS.of rfl rfl (x_lookM TI Try.underlying54 ty28 rfl rfl H 8 rfl hu), ⟨RS.of rfl rfl (x_load Try.underlying3 rfl rfl (H.cellL 6 rfl rfl)), ⟨RS.of rfl rfl (x_fieldAddr Try.underlying33 rfl rfl ty3 (by decide) rfl), ⟨RS.of rfl rfl (x_load Try.underlying54 rfl rfl (H.cellL 7 rfl rfl)), ⟨RS.of rfl rfl (x_fieldAddr Try.underlying56 rfl rfl ty54 (by decide) rfl), ⟨RS.of rfl rfl (x_nilCheck rfl), ⟨RS.of rfl rfl (x_move (by (conv => lhs; whnf); try rfl)), ⟨RS.of rfl rfl (x_load Try.underlying3 rfl rfl (H.cellL 6 rfl rfl)), ⟨RS.of rfl rfl (x_fieldAddr Try.underlying33 rfl rfl ty3 (by decide) rfl), ⟨RS.of rfl rfl (x_load Try.underlying54 rfl rfl (H.cellL 7 rfl rfl)), ⟨RS.of rfl rfl (x_fieldAddr Try.underlying56 rfl rfl ty54 (by decide) rfl), ⟨RS.of rfl rfl (x_nilCheck rfl), ⟨RS.of rfl rfl (x_move (by (conv => lhs; whnf); try rfl)), trivial⟩⟩⟩⟩⟩⟩⟩⟩⟩⟩⟩⟩⟩⟩⟩, ?_⟩)
        refine k_st rfl rfl rfl (s_callL cal33 (c33 (k := bsF es ⟨x.src, x.dst, x.lab, x.time, fv⟩ 0 es.length) (es := es) (e := ⟨x.src, x.dst, x.lab, x.time, .slice pa x.props.length pc⟩) _ (Hd.arrT [_, _, _, _, _, _, _, _, _, _] [0, 2, 1, 3, 4, 5, 6, 7, 8, 9] (by decide) rfl H) hins.1 (by omega) (one_cons rfl hes0.one)) ?_)
        rintro sv w H
        refine ⟨⟨trivial, ⟨trivial, ⟨trivial, ⟨trivial, ⟨trivial, ⟨trivial, ⟨trivial, ⟨trivial, ⟨trivial, ⟨RS.of rfl rfl (x_load Try.underlying3 rfl rfl (H.cellL 5 rfl rfl)), ⟨RS.of rfl rfl (x_fieldAddr Try.underlying33 rfl rfl ty3 (by decide) rfl), ⟨RS.of rfl rfl (x_load Try.underlying54 rfl rfl (H.cellL 6 rfl rfl)), ⟨RS.of rfl rfl (x_fieldAddr Try.underlying56 rfl rfl ty54 (by decide) rfl), ⟨RS.of rfl rfl (x_nilCheck rfl), ⟨RS.of rfl rfl (x_move (by (conv => lhs; whnf); try rfl)), trivial⟩⟩⟩⟩⟩⟩⟩⟩⟩⟩⟩⟩⟩⟩⟩, ?_⟩
        refine k_no rfl rfl rfl (s_mapUpdate TI Try.underlying54 7 rfl rfl rfl (by conv => lhs; whnf) H fun w H => ⟨⟨trivial, ⟨trivial, ⟨trivial, ⟨trivial, ⟨trivial, ⟨trivial, ⟨trivial, ⟨trivial, ⟨trivial, ⟨trivial, ⟨trivial, ⟨trivial, ⟨trivial, ⟨trivial, ⟨trivial, trivial⟩⟩⟩⟩⟩⟩⟩⟩⟩⟩⟩⟩⟩⟩⟩, ?_⟩)
        show _
        refine WC.seq ?_
        refine WC.region ?_
        refine l_rd rfl rfl (x_assign ev_c) ?_
        refine WL.nil ?_
        refine WC.ret ?_
        refine atRet ?_
        obtain ⟨g2, hg2, hfx, H⟩ := Hd.freezeSl (Hd.arrT [_, _, _, _, _, _, _, _, _] [1, 8, 0, 2, 6, 7, 3] (by decide) rfl H)
        have H := Hd.arrT [_, _, _, _, _, _] [1, 2, 3, 4, 5, 0] (by decide) rfl H
        obtain ⟨tb2, ht1, ht2, ht3⟩ := hup sv (es.take (bsF es ⟨x.src, x.dst, x.lab, x.time, fv⟩ 0 es.length) ++ ⟨x.src, x.dst, x.lab, x.time, .slice pa x.props.length pc⟩ :: es.drop (bsF es ⟨x.src, x.dst, x.lab, x.time, fv⟩ 0 es.length))
        have H := ht3 (show Hd s _ (slT (x.time, sv, es.take (bsF es ⟨x.src, x.dst, x.lab, x.time, fv⟩ 0 es.length) ++ ⟨x.src, x.dst, x.lab, x.time, .slice pa x.props.length pc⟩ :: es.drop (bsF es ⟨x.src, x.dst, x.lab, x.time, fv⟩ 0 es.length)) :: _) by unfold slT; rw [ins_len hins.1]; exact H)
        have H := Hd.arrT [_, _, _, _, _] [1, 2, 3, 0, 4] (by decide) rfl H
        have H : Hd s _ (_ :: Mp TI M (aset x.time sv (mlo tb)) :: HeapP h (pushF hs (x.time, 0)) :: ot tb2 :: fz g2 :: L) := H
        rw [ht1] at H
        have he0 : es = [] := List.eq_nil_of_length_eq_zero (by omega)
        have hrt := hnil he0
        have hph := push_heap (x.time, 0) hI.heap
        have hkk := put_keys1 (t := x.time) hI.hk hph.2
        have hcv := fun (y : Eg) (hy : y ∈ V) => (Or.inr (hI.cov y hy) : y.time = x.time ∨ y.time ∈ keys tb)
        rw [← hrt] at hkk hcv
        have hI2 := hI.put (e := ⟨x.src, x.dst, x.lab, x.time, .slice pa x.props.length pc⟩) (k := bsF es ⟨x.src, x.dst, x.lab, x.time, fv⟩ 0 es.length) hg2 hes0 hr0 hrn hrm ⟨rfl, rfl, hfx⟩ (bs_kk (e := ⟨x.src, x.dst, x.lab, x.time, fv⟩) (f := ⟨x.src, x.dst, x.lab, x.time, .slice pa x.props.length pc⟩) rfl) hlk ht2 hph.1 hkk hcv hl hb (chk_time (Classical.not_not.1 h14))
        exact RetM.one rfl (by (conv => lhs; whnf); try rfl) ⟨g2, hg2, by rw [putR, if_neg h14, if_neg hlk], by rw [putV, if_pos ⟨Classical.not_not.1 h14, hlk⟩]; exact BufP.mk hI2 H⟩
      ·
        show _
        refine WC.cond0 rfl ?_
        refine WC.skip ?_
        refine WC.seq ?_
        have H := hop (Hd.arrT [_, _, _, _, _, _] [4, 0, 1, 2, 3, 5] (by decide) rfl H)
        have H : Hd s w (Sl (.slice a es.length c) 33 5 es.length (es.flatMap edC) :: ot rest :: _) := H
        refine WC.draw mixed [15, 16, 17, 18] [[], [0], [0, 1], [0, 1, 2], [], [4], [], [6], [6, 7], [6, 7, 8], [], [10], [6, 7, 8, 9, 10, 11], [], [], [14], [14, 15], [6, 7, 8, 9, 10, 11, 12, 13, 14, 15, 16], [0, 1, 2, 3, 4, 5, 6, 7, 8, 9, 10, 11, 12, 13, 14, 15, 16, 17]] [0, 1, 2, 3, 4, 5, 6, 7, 8, 9, 10, 11, 12, 13, 14, 15, 16, 17, 18] (by kernel_rfl) ?_
        have H := H.drew
        refine k_rd rfl rfl (RS.of rfl rfl (x_move (by conv => lhs; whnf))) ?_
        refine k_rd rfl rfl (RS.of rfl rfl (x_nilCheck rfl)) ?_
        refine k_rd rfl rfl (RS.of rfl rfl (x_fieldAddr Try.underlying56 rfl rfl ty54 (by decide) rfl)) ?_
        refine k_rd rfl rfl (RS.of rfl rfl (x_load Try.underlying54 rfl rfl (H.cellL 3 rfl rfl))) ?_
        refine k_rd rfl rfl (RS.of rfl rfl (x_fieldAddr Try.underlying33 rfl rfl ty3 (by decide) rfl)) ?_
        refine k_rd rfl rfl (RS.of rfl rfl (x_load Try.underlying3 rfl rfl (H.cellL 2 rfl rfl))) ?_
        refine k_rd rfl rfl (RS.of rfl rfl (x_move (by conv => lhs; whnf))) ?_
        refine k_rd rfl rfl (RS.of rfl rfl (x_nilCheck rfl)) ?_
        refine k_rd rfl rfl (RS.of rfl rfl (x_fieldAddr Try.underlying56 rfl rfl ty54 (by decide) rfl)) ?_
        refine k_rd rfl rfl (RS.of rfl rfl (x_load Try.underlying54 rfl rfl (H.cellL 3 rfl rfl))) ?_
        refine k_rd rfl rfl (RS.of rfl rfl (x_fieldAddr Try.underlying33 rfl rfl ty3 (by decide) rfl)) ?_
        refine k_rd rfl rfl (RS.of rfl rfl (x_load Try.underlying3 rfl rfl (H.cellL 2 rfl rfl))) ?_
        refine k_rd rfl rfl (RS.of rfl rfl (x_lookM TI Try.underlying54 ty28 rfl rfl H 4 rfl hu)) ?_
        refine k_rd rfl rfl (RS.of rfl rfl (x_move (by conv => lhs; whnf))) ?_
        refine k_rd rfl rfl (RS.of rfl rfl (x_loadF (vs := [_, _, _, _, _]) Try.underlying33 rfl ty33 rfl rfl (H.cellsL 2 rfl rfl))) ?_
        refine k_st rfl rfl rfl (s_callL cal34 (c34 (e := ⟨x.src, x.dst, x.lab, x.time, fv⟩) _ H (fun w A h => hr w (A ++ [_, _, _, _, _, _, _]) (by rw [List.append_assoc]; exact h)) hb) ?_)
        rintro _ w ⟨pv, rfl, H⟩
        obtain ⟨pa, pc, rfl⟩ := (H.sl 0 rfl).shape
        refine ⟨⟨trivial, ⟨RS.of rfl rfl (x_move (by (conv => lhs; whnf); try rfl)), ⟨RS.of rfl rfl (x_lookM TI Try.underlying54 ty28 rfl rfl H 5 rfl hu), ⟨RS.of rfl rfl (x_load Try.underlying3 rfl rfl (H.cellL 3 rfl rfl)), ⟨RS.of rfl rfl (x_fieldAddr Try.underlying33 rfl rfl ty3 (by decide) rfl), ⟨RS.of rfl rfl (x_load Try.underlying54 rfl rfl (H.cellL 4 rfl rfl)), ⟨RS.of rfl rfl (x_fieldAddr Try.underlying56 rfl rfl ty54 (by decide) rfl), ⟨RS.of rfl rfl (x_nilCheck rfl), ⟨RS.of rfl rfl (x_move (by (conv => lhs; whnf); try rfl)), ⟨RS.of rfl rfl (x_load Try.underlying3 rfl rfl (H.cellL 3 rfl rfl)), ⟨RS.of rfl rfl (x_fieldAddr Try.underlying33 rfl rfl ty3 (by decide) rfl), ⟨RS.of rfl rfl (x_load Try.underlying54 rfl rfl (H.cellL 4 rfl rfl)), ⟨RS.of rfl rfl (x_fieldAddr Try.underlying56 rfl rfl ty54 (by decide) rfl), ⟨RS.of rfl rfl (x_nilCheck rfl), ⟨RS.of rfl rfl (x_move (by (conv => lhs; whnf); try rfl)), trivial⟩⟩⟩⟩⟩⟩⟩⟩⟩⟩⟩⟩⟩⟩⟩, ?_⟩
        refine k_st rfl rfl rfl (s_build1A Try.underlying28 ty33 rfl (by decide) (by decide) (by conv => lhs; whnf) rfl H fun b58 w H => ⟨⟨trivial, ⟨RS.of rfl rfl (x_move (by (conv => lhs; whnf); try rfl)), ⟨RS.of rfl rfl (x_lookM TI Try.underlying54 ty28 rfl rfl H 6 rfl hu), ⟨RS.of rfl rfl (x_load Try.underlying3 rfl rfl (H.cellL 4 rfl rfl)), ⟨RS.of rfl rfl (x_fieldAddr Try.underlying33 rfl rfl ty3 (by decide) rfl), ⟨RS.of rfl rfl (x_load Try.underlying54 rfl rfl (H.cellL 5 rfl rfl)), ⟨RS.of rfl rfl (x_fieldAddr Try.underlying56 rfl rfl ty54 (by decide) rfl), ⟨RS.of rfl rfl (x_nilCheck rfl), ⟨RS.of rfl rfl (x_move (by (conv => lhs; whnf); try rfl)), ⟨RS.of rfl rfl (x_load Try.underlying3 rfl rfl (H.cellL 4 rfl rfl)), ⟨RS.of rfl rfl (x_fieldAddr Try.underlying33 rfl rfl ty3 (by decide) rfl), ⟨RS.of rfl rfl (x_load Try.underlying54 rfl rfl (H.cellL 5 rfl rfl)), ⟨RS.of rfl rfl (x_fieldAddr Try.underlying56 rfl rfl ty54 (by decide) rfl), ⟨RS.of rfl rfl (x_nilCheck rfl), ⟨RS.of rfl rfl (x_move (by (conv => lhs; whnf); try rfl)), trivial⟩⟩⟩⟩⟩⟩⟩⟩⟩⟩⟩⟩⟩⟩⟩, ?_⟩)
        refine k_st rfl rfl rfl (s_callL cal33 (c33 (k := bsF es ⟨x.src, x.dst, x.lab, x.time, fv⟩ 0 es.length) (es := es) (e := ⟨x.src, x.dst, x.lab, x.time, .slice pa x.props.length pc⟩) _ (Hd.arrT [_, _, _, _, _, _, _, _, _] [0, 2, 1, 3, 4, 5, 6, 7, 8] (by decide) rfl H) hins.1 (by omega) (one_cons rfl hes0.one)) ?_)
        rintro sv w H
        refine ⟨⟨trivial, ⟨trivial, ⟨trivial, ⟨trivial, ⟨trivial, ⟨trivial, ⟨trivial, ⟨trivial, ⟨trivial, ⟨RS.of rfl rfl (x_load Try.underlying3 rfl rfl (H.cellL 3 rfl rfl)), ⟨RS.of rfl rfl (x_fieldAddr Try.underlying33 rfl rfl ty3 (by decide) rfl), ⟨RS.of rfl rfl (x_load Try.underlying54 rfl rfl (H.cellL 4 rfl rfl)), ⟨RS.of rfl rfl (x_fieldAddr Try.underlying56 rfl rfl ty54 (by decide) rfl), ⟨RS.of rfl rfl (x_nilCheck rfl), ⟨RS.of rfl rfl (x_move (by (conv => lhs; whnf); try rfl)), trivial⟩⟩⟩⟩⟩⟩⟩⟩⟩⟩⟩⟩⟩⟩⟩, ?_⟩
        refine k_no rfl rfl rfl (s_mapUpdate TI Try.underlying54 5 rfl rfl rfl (by conv => lhs; whnf) H fun w H => ⟨⟨trivial, ⟨trivial, ⟨trivial, ⟨trivial, ⟨trivial, ⟨trivial, ⟨trivial, ⟨trivial, ⟨trivial, ⟨trivial, ⟨trivial, ⟨trivial, ⟨trivial, ⟨trivial, ⟨trivial, trivial⟩⟩⟩⟩⟩⟩⟩⟩⟩⟩⟩⟩⟩⟩⟩, ?_⟩)
        show _
        refine WC.seq ?_
        refine WC.region ?_
        refine l_rd rfl rfl (x_assign ev_c) ?_
        refine WL.nil ?_
        refine WC.ret ?_
        refine atRet ?_
        obtain ⟨g2, hg2, hfx, H⟩ := Hd.freezeSl (Hd.arrT [_, _, _, _, _, _, _, _] [1, 7, 0, 2, 4, 5, 6] (by decide) rfl H)
        have H := Hd.arrT [_, _, _, _, _, _] [1, 2, 3, 4, 5, 0] (by decide) rfl H
        obtain ⟨tb2, ht1, ht2, ht3⟩ := hup sv (es.take (bsF es ⟨x.src, x.dst, x.lab, x.time, fv⟩ 0 es.length) ++ ⟨x.src, x.dst, x.lab, x.time, .slice pa x.props.length pc⟩ :: es.drop (bsF es ⟨x.src, x.dst, x.lab, x.time, fv⟩ 0 es.length))
        have H := ht3 (show Hd s _ (slT (x.time, sv, es.take (bsF es ⟨x.src, x.dst, x.lab, x.time, fv⟩ 0 es.length) ++ ⟨x.src, x.dst, x.lab, x.time, .slice pa x.props.length pc⟩ :: es.drop (bsF es ⟨x.src, x.dst, x.lab, x.time, fv⟩ 0 es.length)) :: _) by unfold slT; rw [ins_len hins.1]; exact H)
        have H := Hd.arrT [_, _, _, _, _] [1, 2, 3, 0, 4] (by decide) rfl H
        have H : Hd s _ (_ :: Mp TI M (aset x.time sv (mlo tb)) :: HeapP h hs :: ot tb2 :: fz g2 :: L) := H
        rw [ht1] at H
        have he0 : es ≠ [] := by rintro rfl; exact h31 rfl
        have hph := hI.heap
        have hkk := put_keys2 hI.hk (hne he0)
        have hcv := put_cov hI (hne he0)
        have hI2 := hI.put (e := ⟨x.src, x.dst, x.lab, x.time, .slice pa x.props.length pc⟩) (k := bsF es ⟨x.src, x.dst, x.lab, x.time, fv⟩ 0 es.length) hg2 hes0 hr0 hrn hrm ⟨rfl, rfl, hfx⟩ (bs_kk (e := ⟨x.src, x.dst, x.lab, x.time, fv⟩) (f := ⟨x.src, x.dst, x.lab, x.time, .slice pa x.props.length pc⟩) rfl) hlk ht2 hph hkk hcv hl hb (chk_time (Classical.not_not.1 h14))
        exact RetM.one rfl (by (conv => lhs; whnf); try rfl) ⟨g2, hg2, by rw [putR, if_neg h14, if_neg hlk], by rw [putV, if_pos ⟨Classical.not_not.1 h14, hlk⟩]; exact BufP.mk hI2 H⟩

end Go.Proofs.Ytahdodijpmkddaa
set_option linter.unusedVariables false
set_option linter.unusedSimpArgs false
namespace Go.Proofs.Ytahdodijpmkddaa
open Go Go.RowKit KE Go.Proofs
theorem cal44 : Cal Try.prog 44 := ⟨_, Try.func44, rfl, by decide⟩
theorem cal86 : Cal Try.prog 86 := ⟨_, Try.func86, rfl, by decide⟩
theorem c41n {s : Sy} {L : List Hp} {g : Sub} {B : Nat} (w : World) (H : Hd s w (BufP g B [] :: fz g :: L)) : CC Try.prog 41 [.pointer (some ⟨B, 0, none⟩)].toArray w (fun r w' => r = .tuple #[.agg (edC ⟨⟨#[]⟩, ⟨#[]⟩, ⟨#[]⟩, 0, .slice none 0 0⟩).toArray, .bool false] ∧ Hd s w' (BufP g B [] :: fz g :: L)) := by
  obtain ⟨h, M, hs, tb, hI, H⟩ := BufP.opn H
  refine CC.of (N := 29) Try.func41 rfl rfl rfl ?_
  refine WC.seq ?_
  refine WC.region ?_
  refine l_st rfl (s_alloc ty33 H fun b2 w H => ?_)
  refine l_rd rfl rfl (x_assign ev_c) ?_
  refine WL.nil ?_
  refine WC.seq ?_
  refine WC.seq ?_
  refine WC.region ?_
  refine l_rd rfl rfl (x_move (by conv => lhs; whnf)) ?_
  refine l_st rfl (s_callL cal26 (c26 _ (H.obj 1 rfl)) ?_)
  rintro _ w ⟨rfl, e1⟩
  have H := H.ext e1
  refine l_rd rfl rfl (x_not rfl) ?_
  refine WL.nil ?_
  refine WC.cond0 rfl ?_
  refine WC.skip ?_
  refine WC.seq ?_
  refine WC.region ?_
  refine l_rd rfl rfl (x_move (by conv => lhs; whnf)) ?_
  refine l_rd rfl rfl (x_nilCheck rfl) ?_
  refine l_rd rfl rfl (x_fieldAddr Try.underlying56 rfl rfl ty53 (by decide) rfl) ?_
  refine l_rd rfl rfl (x_loadF (vs := [_]) Try.underlying53 rfl ty53 rfl rfl (H.cellsL 1 rfl rfl)) ?_
  refine l_st rfl (s_callL cal44 (c44 _ (HeapP.rd H 3 rfl)) ?_)
  rintro r w ⟨hr1, e1⟩
  have H := H.ext e1
  obtain rfl : r = .tuple #[I (at_ hs 0).1, .bool false] := hr1.trans (by rw [decide_eq_false (fun hne => hne hI.empty.1)])
  refine l_rd rfl rfl (x_move (by conv => lhs; whnf)) ?_
  refine l_rd rfl rfl (x_extract rfl rfl) ?_
  refine l_rd rfl rfl (x_extract rfl rfl) ?_
  refine l_rd rfl rfl (x_assign (by conv => lhs; whnf)) ?_
  refine l_rd rfl rfl (x_assign (by conv => lhs; whnf)) ?_
  refine WL.nil ?_
  refine WC.seq ?_
  refine WC.seq ?_
  refine WC.region ?_
  refine l_rd rfl rfl (x_move (by conv => lhs; whnf)) ?_
  refine l_rd rfl rfl (x_not rfl) ?_
  refine WL.nil ?_
  refine WC.cond1 rfl ?_
  refine WC.seq ?_
  refine WC.region ?_
  refine l_rd rfl rfl (x_loadF (vs := [_, _, _, _, _]) Try.underlying33 rfl ty33 rfl rfl (H.cellsL 0 rfl rfl)) ?_
  refine l_no (s_stA 0 rfl ty33 rfl (by conv => lhs; whnf) rfl rfl rfl H fun w H => ?_)
  refine l_rd rfl rfl (x_assign ev_c) ?_
  refine WL.nil ?_
  refine WC.ret ?_
  refine atRet ?_
  exact RetM.cellAT (vs := [_, _, _, _, _]) rfl (by (conv => lhs; whnf); try rfl) (by (conv => lhs; whnf); try rfl) Try.underlying33 rfl ty33 rfl (H.cellsL 0 rfl rfl) (⟨rfl, BufP.mk hI (Hd.arrT [_, _, _, _, _, _] [1, 2, 3, 4, 5] (by decide) rfl H)⟩)

theorem c41s {s : Sy} {L : List Hp} {g : Sub} {B : Nat} {x : Eg} {V : List Eg} (w : World) (H : Hd s w (BufP g B (x :: V) :: fz g :: L)) : CC Try.prog 41 [.pointer (some ⟨B, 0, none⟩)].toArray w (fun r w' => ∃ e : Ed, r = .tuple #[.agg (edC e).toArray, .bool true] ∧ kk e = kE x ∧ Hd s w' (Sl e.pv 86 4 x.props.length (x.props.flatMap prC) :: BufP g B (x :: V) :: fz g :: L)) := by
  obtain ⟨h, M, hs, tb, hI, H⟩ := BufP.opn H
  obtain ⟨u, es0, rest, hu, hes0, -, -, -, -, hnil, hop, hcl, -, -⟩ := tb_get hI x.time
  have hF : (x :: V).filter (tm x.time) = x :: V.filter (tm x.time) := List.filter_cons_of_pos (by simp [tm])
  obtain ⟨e, es, rfl⟩ : ∃ e es, es0 = e :: es := by
    cases es0 with
    | nil => rw [hF] at hes0; exact hes0.elim
    | cons e es => exact ⟨e, es, rfl⟩
  have he : ER g e x := by rw [hF] at hes0; exact hes0.1
  refine CC.of (N := 29) Try.func41 rfl rfl rfl ?_
  refine WC.seq ?_
  refine WC.region ?_
  refine l_st rfl (s_alloc ty33 H fun b2 w H => ?_)
  refine l_rd rfl rfl (x_assign ev_c) ?_
  refine WL.nil ?_
  refine WC.seq ?_
  refine WC.seq ?_
  refine WC.region ?_
  refine l_rd rfl rfl (x_move (by conv => lhs; whnf)) ?_
  refine l_st rfl (s_callL cal26 (c26 _ (H.obj 1 rfl)) ?_)
  rintro _ w ⟨rfl, e1⟩
  have H := H.ext e1
  refine l_rd rfl rfl (x_not rfl) ?_
  refine WL.nil ?_
  refine WC.cond0 rfl ?_
  refine WC.skip ?_
  refine WC.seq ?_
  refine WC.region ?_
  refine l_rd rfl rfl (x_move (by conv => lhs; whnf)) ?_
  refine l_rd rfl rfl (x_nilCheck rfl) ?_
  refine l_rd rfl rfl (x_fieldAddr Try.underlying56 rfl rfl ty53 (by decide) rfl) ?_
  refine l_rd rfl rfl (x_loadF (vs := [_]) Try.underlying53 rfl ty53 rfl rfl (H.cellsL 1 rfl rfl)) ?_
  refine l_st rfl (s_callL cal44 (c44 _ (HeapP.rd H 3 rfl)) ?_)
  rintro r w ⟨hr1, e1⟩
  have H := H.ext e1
  obtain rfl : r = .tuple #[I x.time, .bool true] := hr1.trans (by rw [decide_eq_true hI.first.1, hI.first.2])
  refine l_rd rfl rfl (x_move (by conv => lhs; whnf)) ?_
  refine l_rd rfl rfl (x_extract rfl rfl) ?_
  refine l_rd rfl rfl (x_extract rfl rfl) ?_
  refine l_rd rfl rfl (x_assign (by conv => lhs; whnf)) ?_
  refine l_rd rfl rfl (x_assign (by conv => lhs; whnf)) ?_
  refine WL.nil ?_
  refine WC.seq ?_
  refine WC.seq ?_
  refine WC.region ?_
  refine l_rd rfl rfl (x_move (by conv => lhs; whnf)) ?_
  refine l_rd rfl rfl (x_not rfl) ?_
  refine WL.nil ?_
  refine WC.cond0 rfl ?_
  refine WC.skip ?_
  refine WC.seq ?_
  have H := hop (Hd.arrT [_, _, _, _, _, _] [4, 0, 1, 2, 3, 5] (by decide) rfl H)
  have H : Hd s w (Sl u 33 5 (e :: es).length ((e :: es).flatMap edC) :: ot rest :: _) := H
  obtain ⟨a, c, rfl⟩ := (H.sl 0 rfl).shape
  have hl1 : (e :: es).length = es.length + 1 := rfl
  obtain ⟨b1, o1, rfl, -⟩ := (show RdS w _ 5 edC (e :: es) from H.sl 0 rfl).el edC_len (show (e :: es)[0]? = some e from rfl)
  refine WC.region ?_
  refine l_rd rfl rfl (x_move (by conv => lhs; whnf)) ?_
  refine l_rd rfl rfl (x_nilCheck rfl) ?_
  refine l_rd rfl rfl (x_fieldAddr Try.underlying56 rfl rfl ty54 (by decide) rfl) ?_
  refine l_rd rfl rfl (x_load Try.underlying54 rfl rfl (H.cellL 3 rfl rfl)) ?_
  refine l_rd rfl rfl (x_move (by conv => lhs; whnf)) ?_
  refine l_rd rfl rfl (x_lookM TI Try.underlying54 ty28 rfl rfl H 4 rfl hu) ?_
  refine l_rd rfl rfl (x_indexAddr Try.underlying28 ty33 rfl rfl (by omega) (by omega)) ?_
  refine l_rd rfl rfl (x_loadF (vs := [_, _, _, _, _]) Try.underlying33 rfl ty33 rfl rfl (sub_row 0 (RdS.at edC_len (show RdS _ _ 5 edC (e :: es) from H.sl 0 rfl) (show (e :: es)[0]? = some e from rfl)) rfl)) ?_
  refine l_st rfl (s_callL cal34 (c34 (e := e) _ H (fun w A h => he.2.2.in h (List.mem_append_right _ ((List.mem_cons_of_mem _ (List.mem_cons_of_mem _ (List.mem_cons_of_mem _ (List.mem_cons_of_mem _ (List.mem_cons_of_mem _ (List.mem_cons_of_mem _ List.mem_cons_self))))))))) (hI.pl x List.mem_cons_self)) ?_)
  rintro _ w ⟨pv, rfl, H⟩
  obtain ⟨pa, pc, rfl⟩ := (H.sl 0 rfl).shape
  refine l_no (s_stA 3 rfl ty33 rfl (by conv => lhs; whnf) rfl rfl rfl H fun w H => ?_)
  refine l_rd rfl rfl (x_assign ev_c) ?_
  refine WL.nil ?_
  refine WC.ret ?_
  refine atRet ?_
  refine RetM.cellAT (vs := [_, _, _, _, _]) rfl (by (conv => lhs; whnf); try rfl) (by (conv => lhs; whnf); try rfl) Try.underlying33 rfl ty33 rfl (H.cellsL 3 rfl rfl) ⟨⟨e.src, e.dst, e.lab, e.time, .slice pa x.props.length pc⟩, rfl, he.1, ?_⟩
  have H := tb_close hnil hcl (Hd.arrT [_, _, _, _, _, _, _, _] [1, 2, 4, 5, 6, 0, 7] (by decide) rfl H)
  exact (BufP.mk hI (Hd.arrT [_, _, _, _, _, _] [1, 2, 3, 0, 4, 5] (by decide) rfl H)).swp

theorem c69 {s : Sy} {L : List Hp} {h : Nat} (w : World) (H : Hd s w L) : CC Try.prog 69 [.agg #[.pointer (some ⟨h, 0, none⟩)]].toArray w (fun r w' => ∃ b1 : Nat, r = .func (.func 85) #[] #[.pointer (some ⟨b1, 0, none⟩)] ∧ Hd s w' (pt b1 (.cells #[.pointer (some ⟨h, 0, none⟩)] 53 (0, 0)) :: L)) := by
  refine CC.of (N := 4) Try.func69 rfl rfl rfl ?_
  refine WC.seq ?_
  refine WC.region ?_
  refine l_st rfl (s_box (by conv => lhs; whnf) H fun b1 w H => ?_)
  refine l_rd rfl rfl (x_assign ev_c) ?_
  refine WL.nil ?_
  refine WC.seq ?_
  refine WC.region ?_
  refine l_rd rfl rfl (x_makeFuncL) ?_
  refine l_rd rfl rfl (x_assign (by conv => lhs; whnf)) ?_
  refine WL.nil ?_
  refine WC.ret ?_
  refine atRet ?_
  exact RetM.one rfl (by (conv => lhs; whnf); try rfl) (⟨_, rfl, H⟩)

theorem c22 {s : Sy} {L : List Hp} {time : Int} {B : Nat} (w : World) (H : Hd s w L) : CC Try.prog 22 [.pointer (some ⟨B, 0, none⟩), I time].toArray w (fun r w' => ∃ b1 b2 : Nat, r = .func (.func 43) #[] #[.pointer (some ⟨b1, 0, none⟩), .pointer (some ⟨b2, 0, none⟩)] ∧ Hd s w' (pt b1 (.cells #[.pointer (some ⟨B, 0, none⟩)] 25 (0, 0)) :: pt b2 (.cells #[I time] 3 (0, 0)) :: L)) := by
  refine CC.of (N := 6) Try.func22 rfl rfl rfl ?_
  refine WC.seq ?_
  refine WC.region ?_
  refine l_st rfl (s_box (by conv => lhs; whnf) H fun b2 w H => ?_)
  refine l_st rfl (s_box (by conv => lhs; whnf) H fun b3 w H => ?_)
  refine l_rd rfl rfl (x_assign ev_c) ?_
  refine WL.nil ?_
  refine WC.seq ?_
  refine WC.region ?_
  refine l_rd rfl rfl (x_makeFuncL) ?_
  refine l_rd rfl rfl (x_assign (by conv => lhs; whnf)) ?_
  refine WL.nil ?_
  refine WC.ret ?_
  refine atRet ?_
  exact RetM.one rfl (by (conv => lhs; whnf); try rfl) (⟨_, _, rfl, H.swp⟩)

theorem it85 {s : Sy} {h bx : Nat} {hs zs : List It} (hh : Heap hs) (hz : Srt zs) (hp : zs.Perm hs) (hk : ∀ p ∈ hs, p.1 ≤ 9223372036854775807) (hb : hs.length ≤ 1000) : IT Try.prog s 85 [.pointer (some ⟨bx, 0, none⟩)] (fun (p : It) vs => fun _ => vs = [I p.1]) zs (star (pt bx (.cells #[.pointer (some ⟨h, 0, none⟩)] 53 (0, 0))) (HeapP h hs)) (fun _ => star (pt bx (.cells #[.pointer (some ⟨h, 0, none⟩)] 53 (0, 0))) (HeapP h hs)) := by
  intro l J X w L hy H
  have H := Hd.unstarAt [_] H
  have hzl : zs.length ≤ 1000 := by rw [hp.length_eq]; exact hb
  refine CC.of (N := 19) Try.func85 rfl rfl rfl ?_
  refine WC.seq ?_
  refine WC.region ?_
  refine l_rd rfl rfl (x_fieldAddr Try.underlying53 rfl rfl ty50 (by decide) rfl) ?_
  refine l_rd rfl rfl (x_load Try.underlying50 rfl rfl (H.cellL 1 rfl rfl)) ?_
  refine l_st rfl (s_callL cal86 (c86 _ (H.pick 2 rfl) hh hz hp hk (by omega)) ?_)
  rintro _ w H
  obtain ⟨az, cz, rfl⟩ := (H.sl 0 rfl).shape
  refine l_rd rfl rfl (x_lenSlice Try.underlying76 rfl rfl) ?_
  refine l_rd rfl rfl (x_move ev_c) ?_
  refine WL.nil ?_
  refine WC.block ?_
  refine WC.loop (fun ρ ds w => ∃ k : Nat, k ≤ zs.length ∧ ρ 9 = I k ∧ ρ 8 = I zs.length ∧ ρ 7 = .slice az zs.length cz ∧ ρ 0 = .func (.yield l) #[] #[] ∧ ρ 1 = .pointer (some ⟨bx, 0, none⟩) ∧ ds = [] ∧ Hd s w (Sl (.slice az zs.length cz) 69 2 zs.length (zs.flatMap itC) :: HeapP h hs :: J (zs.take k) :: pt bx (.cells #[.pointer (some ⟨h, 0, none⟩)] 53 (0, 0)) :: L)) (fun ρ w => zs.length - (match ρ 9 with | .int _ k => k.toNat | _ => 0)) (⟨0, Nat.zero_le _, rfl, rfl, rfl, rfl, rfl, rfl, H⟩) ?_
  repeat clear H
  rintro ρ ds w ⟨k, hk9, h9, h8, h7, h0, h1, rfl, H⟩
  refine WC.seq ?_
  refine WC.region ?_
  refine l_rdD rfl rfl (x_lss h9 h8) (fun h10 => ?_) (fun h10 => ?_)
  ·
    refine WL.nil ?_
    refine WC.seq ?_
    refine WC.cond1 rfl ?_
    refine WC.skip ?_
    refine WC.seq ?_
    refine WC.block ?_
    refine WC.seq ?_
    obtain ⟨z, hzk⟩ := lt_get (show k < zs.length by omega)
    have hsp : zs = zs.take k ++ z :: zs.drop (k + 1) := by
      have h1 := (List.getElem?_eq_some_iff.1 hzk)
      rw [← h1.2, ← List.drop_eq_getElem_cons h1.1, List.take_append_drop]
    obtain ⟨b1, o1, rfl, -⟩ := (show RdS w _ 2 itC zs from H.sl 0 rfl).el itC_len hzk
    refine WC.region ?_
    refine l_rd rfl rfl (x_indexAddr Try.underlying76 ty69 h7 h9 (by omega) (by omega)) ?_
    refine l_rd rfl rfl (x_loadF (vs := [_, _]) Try.underlying69 rfl ty69 rfl rfl (sub_row 0 (RdS.at itC_len (show RdS _ _ 2 itC zs from H.sl 0 rfl) hzk) rfl)) ?_
    refine l_st rfl (s_alloc ty69 H fun b4 w H => ?_)
    refine l_no (s_stA 0 rfl ty69 rfl (by conv => lhs; whnf) rfl rfl rfl H fun w H => ?_)
    refine WL.nil ?_
    refine WC.seq ?_
    refine WC.region ?_
    refine l_rd rfl rfl (x_move h0) ?_
    refine l_rd rfl rfl (x_fieldAddr Try.underlying69 rfl rfl ty3 (by decide) rfl) ?_
    refine l_rd rfl rfl (x_load Try.underlying3 rfl rfl (H.cellL 0 rfl rfl)) ?_
    refine l_st rfl (s_yieldL rfl (hy (zs.take k) z (zs.drop (k + 1)) [I z.1] _ _ hsp ((Hd.pure rfl H).pick 4 rfl)) ?_)
    rintro v w (⟨rfl, H⟩ | ⟨rfl, H⟩)
    ·
      refine l_rd rfl rfl (x_not rfl) ?_
      refine WL.nil ?_
      refine WC.cond0 rfl ?_
      refine WC.skip ?_
      refine WC.region ?_
      refine l_rd rfl rfl (x_add h9 rfl (by omega) (by omega)) ?_
      refine l_rd rfl rfl (x_move (by conv => lhs; whnf)) ?_
      refine WL.nil ?_
      refine WC.again (⟨k + 1, by omega, rfl, h8, h7, h0, h1, rfl, by rw [take_snoc hzk]; exact Hd.arrT [_, _, _, _, _] [2, 3, 0, 4] (by decide) rfl H⟩) (by show _ - _ < _ - _; rw [h9]; show zs.length - ((k : Int) + 1).toNat < zs.length - (k : Int).toNat; omega)
    ·
      refine l_rd rfl rfl (x_not rfl) ?_
      refine WL.nil ?_
      refine WC.cond1 rfl ?_
      refine WC.ret ?_
      refine atRet ?_
      exact RetM.none' rfl (.inr ⟨_, z, _, hsp, Hd.starAt [_] (Hd.arrT [_, _, _, _, _] [0, 4, 3] (by decide) rfl H)⟩)
  ·
    refine WL.nil ?_
    refine WC.seq ?_
    refine WC.cond0 rfl ?_
    refine WC.exit ?_
    refine atEnd ?_
    exact RetM.none' rfl (.inl (by rw [List.take_of_length_le (by omega)] at H; exact Hd.starAt [_] (Hd.arrT [_, _, _, _] [2, 3, 1] (by decide) rfl H)))

end Go.Proofs.Ytahdodijpmkddaa
