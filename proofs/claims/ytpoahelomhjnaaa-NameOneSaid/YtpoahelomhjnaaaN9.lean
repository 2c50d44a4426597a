/-
  What functions of this seat do: contracts, proved by walks; each with the conditions that it names.
-/
import Derived.Test.YtpoahelomhjnaaaN8
set_option linter.unusedVariables false
set_option linter.unusedSimpArgs false
namespace Go.Proofs.Ytpoahelomhjnaaa
open Go Go.RowKit KE Go.Proofs
theorem cal13 : Cal Try.prog 13 := ⟨_, Try.func13, rfl, by decide⟩

theorem addL_take {ts texts : List ByteArray} {k : Nat} {y : ByteArray} (h : texts[k]? = some y) : addL ts (texts.take (k + 1)) = add1 (addL ts (texts.take k)) y := by
  obtain ⟨hk, e⟩ := List.getElem?_eq_some_iff.1 h
  rw [List.take_succ_eq_append_getElem hk, e, addL_app]; rfl
theorem addL_rest {ts texts : List ByteArray} (k : Nat) : addL ts texts = addL (addL ts (texts.take k)) (texts.drop k) := by rw [← addL_app, List.take_append_drop]
theorem num_in {ts texts : List ByteArray} {k : Nat} {y : ByteArray} (h : texts[k]? = some y) (hx : y ∈ addL ts (texts.take k)) : fIdx (addL ts texts) y = fIdx (addL ts (texts.take k)) y := by
  rw [addL_rest k]; exact fIdx_addL hx
theorem num_new {ts texts : List ByteArray} {k : Nat} {y : ByteArray} (h : texts[k]? = some y) (hx : ¬ y ∈ addL ts (texts.take k)) : fIdx (addL ts texts) y = ((addL ts (texts.take k)).length : Int) := by
  rw [addL_rest (k + 1), addL_take h, add1, if_neg hx, fIdx_addL (by simp)]; exact fIdx_new hx
theorem c11 {s : Sy} {L : List Hp} {B : Nat} {tv : Value} {ts texts : List ByteArray} {T : Hp} (w : World) (H : Hd s w (RefP B ts :: T :: L)) (hT : ∀ w (A : List Hp), Hd s w (T :: A) → RdL w tv S texts) (h2 : ts.length + texts.length ≤ 65536) : CC Try.prog 11 [.pointer (some ⟨B, 0, none⟩), tv].toArray w (fun r w' => ∃ ov, r = .tuple #[ov, I 0] ∧ Hd s w' (Sl ov 3 1 texts.length (texts.map fun t => I (fIdx (addL ts texts) t)) :: RefP B (addL ts texts) :: T :: L)) := by
  obtain ⟨a, c, rfl⟩ := (hT w _ H.swp).shape
  have hle := (hT w _ H.swp).le
  obtain ⟨v, H⟩ := RefP.opn H
  obtain ⟨av, cv, rfl⟩ := (H.sl 1 rfl).shape
  refine CC.of (N := 72) Try.func11 rfl rfl rfl ?_
  refine WC.seq ?_
  refine WC.region ?_
  refine l_rd rfl rfl (x_assign ev_c) ?_
  refine l_rd rfl rfl (x_assign ev_c) ?_
  refine WL.nil ?_
  refine WC.seq ?_
  refine WC.region ?_
  refine l_st rfl (s_build0 Try.underlying29 ty9 H fun b11 w H => ?_)
  refine l_rd rfl rfl (x_move (by conv => lhs; whnf)) ?_
  refine l_rd rfl rfl (x_nilCheck rfl) ?_
  refine l_rd rfl rfl (x_fieldAddr Try.underlying43 rfl rfl ty29 (by decide) rfl) ?_
  refine l_rd rfl rfl (x_load Try.underlying29 rfl rfl (H.cellL 1 rfl rfl)) ?_
  refine l_st rfl (s_append Try.underlying29 ty9 rfl (by decide) (by decide) rfl 0 rfl rfl rfl (H.sl 2 rfl) (fun v hv => by obtain ⟨x, _, rfl⟩ := List.mem_map.1 hv; rfl) (by omega) H fun v16 w H => ?_)
  obtain ⟨a16, c16, rfl⟩ := (H.sl 0 rfl).shape
  refine l_rd rfl rfl (x_buildL (pl := [(0, 1)]) (cells := [.slice a16 (0 + ts.length) c16]) Try.underlying43 ty43 (by kernel_rfl) rfl) ?_
  refine l_st rfl (s_box (by conv => lhs; whnf) H fun b18 w H => ?_)
  refine l_rd rfl rfl (x_assign (by conv => lhs; whnf)) ?_
  refine WL.nil ?_
  refine WC.seq ?_
  rw [Nat.zero_add, List.nil_append] at H
  have H := (Hd.nil (RefP.mk H) 3 1).swp
  refine WC.region ?_
  refine l_rd rfl rfl (x_assign ev_c) ?_
  refine WL.nil ?_
  refine WC.seq ?_
  refine WC.seq ?_
  refine WC.region ?_
  refine l_rd rfl rfl (x_assign ev_c) ?_
  refine WL.nil ?_
  refine WC.block ?_
  refine WC.loop (fun ρ ds w => ∃ (k : Nat) (ov : Value), k ≤ texts.length ∧ ρ 8 = I k ∧ ρ 7 = ov ∧ ρ 6 = .pointer (some ⟨b18, 0, none⟩) ∧ ρ 1 = .slice a texts.length c ∧ ρ 0 = .pointer (some ⟨B, 0, none⟩) ∧ ds = [] ∧ Hd s w (RefP b18 (addL ts (texts.take k)) :: Sl ov 3 1 k ((texts.take k).map fun t => I (fIdx (addL ts texts) t)) :: pt B (.cells #[.slice av ts.length cv] 43 (0, 0)) :: Sl (.slice av ts.length cv) 9 1 ts.length (ts.map S) :: T :: L)) (fun ρ w => texts.length - (match ρ 8 with | .int _ k => k.toNat | _ => 0)) (⟨0, _, Nat.zero_le _, rfl, (by conv => lhs; whnf), rfl, rfl, rfl, rfl, H⟩) ?_
  repeat clear H
  rintro ρ ds w ⟨k, ov, hk, h8, h7, h6, h1, h0, rfl, H⟩
  refine WC.seq ?_
  refine WC.seq ?_
  refine WC.region ?_
  refine l_rd rfl rfl (x_move h8) ?_
  refine l_rd rfl rfl (x_move h1) ?_
  refine l_rd rfl rfl (x_lenSlice Try.underlying29 rfl rfl) ?_
  refine l_rdD rfl rfl (x_lss rfl rfl) (fun h22 => ?_) (fun h22 => ?_)
  ·
    refine WL.nil ?_
    refine WC.cond1 rfl ?_
    refine WC.skip ?_
    refine WC.seq ?_
    refine WC.block ?_
    refine WC.seq ?_
    obtain ⟨y, hyk⟩ := lt_get (show k < texts.length by omega)
    obtain ⟨b1, o1, rfl, hc1⟩ := (hT _ _ (H.pick 4 rfl)).el hyk
    refine WC.region ?_
    refine l_rd rfl rfl (x_move h6) ?_
    refine l_rd rfl rfl (x_move h1) ?_
    refine l_rd rfl rfl (x_move h8) ?_
    refine l_rd rfl rfl (x_indexAddr Try.underlying29 ty9 rfl rfl (by omega) (by omega)) ?_
    refine l_rd rfl rfl (x_load Try.underlying9 rfl rfl hc1) ?_
    refine l_st rfl (s_callL cal13 (c13 _ (RefP.rd H 0 rfl)) ?_)
    rintro r w ⟨hr1, e1⟩
    have H := H.ext e1
    by_cases hx : y ∈ addL ts (texts.take k)
    ·
      obtain rfl : r = .tuple #[I (fIdx (addL ts (texts.take k)) y), .bool true] := by rw [hr1, decide_eq_true hx]
      refine l_rd rfl rfl (x_move (by conv => lhs; whnf)) ?_
      refine l_rd rfl rfl (x_extract rfl rfl) ?_
      refine l_rd rfl rfl (x_extract rfl rfl) ?_
      refine l_rd rfl rfl (x_assign (by conv => lhs; whnf)) ?_
      refine l_rd rfl rfl (x_assign (by conv => lhs; whnf)) ?_
      refine WL.nil ?_
      refine WC.seq ?_
      refine WC.seq ?_
      refine WC.region ?_
      refine l_rd rfl rfl (x_move (by conv => lhs; whnf)) ?_
      refine l_rd rfl rfl (x_not rfl) ?_
      refine WL.nil ?_
      refine WC.cond0 rfl ?_
      refine WC.skip ?_
      refine WC.region ?_
      refine l_rd rfl rfl (x_move h7) ?_
      refine l_rd rfl rfl (x_move (by conv => lhs; whnf)) ?_
      refine l_st rfl (s_build1 Try.underlying31 ty3 rfl (by conv => lhs; whnf) rfl H fun b56 w H => ?_)
      refine l_st rfl (s_append Try.underlying31 ty3 rfl (by decide) (by decide) rfl 2 rfl rfl rfl (H.sl 0 rfl) (by simp [Value.oneCell']) (by omega) H fun v57 w H => ?_)
      obtain ⟨a57, c57, rfl⟩ := (H.sl 2 rfl).shape
      refine l_rd rfl rfl (x_assign (by conv => lhs; whnf)) ?_
      refine WL.nil ?_
      refine WC.region ?_
      refine l_rd rfl rfl (x_move h8) ?_
      refine l_rd rfl rfl (x_add rfl rfl (by omega) (by omega)) ?_
      refine l_rd rfl rfl (x_assign (by conv => lhs; whnf)) ?_
      refine WL.nil ?_
      have H := H.drop
      rw [← num_in hyk hx] at H
      refine WC.again (⟨k + 1, _, by omega, rfl, (by conv => lhs; whnf), h6, h1, h0, rfl, by rw [addL_take hyk, add1, if_pos hx, List.take_succ_eq_append_getElem (by omega), List.map_append, (List.getElem?_eq_some_iff.1 hyk).2]; exact H⟩) (by show _ - _ < _ - _; rw [h8]; show texts.length - ((k : Int) + 1).toNat < texts.length - (k : Int).toNat; omega)
    ·
      obtain rfl : r = .tuple #[I (fIdx (addL ts (texts.take k)) y), .bool false] := by rw [hr1, decide_eq_false hx]
      refine l_rd rfl rfl (x_move (by conv => lhs; whnf)) ?_
      refine l_rd rfl rfl (x_extract rfl rfl) ?_
      refine l_rd rfl rfl (x_extract rfl rfl) ?_
      refine l_rd rfl rfl (x_assign (by conv => lhs; whnf)) ?_
      refine l_rd rfl rfl (x_assign (by conv => lhs; whnf)) ?_
      refine WL.nil ?_
      refine WC.seq ?_
      refine WC.seq ?_
      refine WC.region ?_
      refine l_rd rfl rfl (x_move (by conv => lhs; whnf)) ?_
      refine l_rd rfl rfl (x_not rfl) ?_
      refine WL.nil ?_
      refine WC.cond1 rfl ?_
      refine WC.seq ?_
      obtain ⟨vm, H⟩ := RefP.opn H
      obtain ⟨am, cm, rfl⟩ := (H.sl 1 rfl).shape
      have hus := addL_len ts (texts.take k)
      have htk := List.length_take_le k texts
      obtain ⟨b2, o2, he2, hc1⟩ := (hT _ _ (H.pick 5 rfl)).el hyk
      cases he2
      refine WC.region ?_
      refine l_rd rfl rfl (x_move h6) ?_
      refine l_rd rfl rfl (x_nilCheck rfl) ?_
      refine l_rd rfl rfl (x_fieldAddr Try.underlying43 rfl rfl ty29 (by decide) rfl) ?_
      refine l_rd rfl rfl (x_load Try.underlying29 rfl rfl (H.cellL 0 rfl rfl)) ?_
      refine l_rd rfl rfl (x_lenSlice Try.underlying29 rfl rfl) ?_
      refine l_rd rfl rfl (x_assign (by conv => lhs; whnf)) ?_
      refine WL.nil ?_
      refine WC.draw mixed [9, 10, 13] [[], [], [1], [1, 2], [1, 2, 3], [], [], [5, 6], [5, 6, 7], [5, 6, 7, 8], [1, 2, 3, 4, 5, 6, 7, 8, 9], [0, 1, 2, 3, 4, 5, 6, 7, 8, 9, 10], [0, 1, 2, 3, 4, 5, 6, 7, 8, 9, 10, 11], [0, 1, 2, 3, 4, 5, 6, 7, 8, 9, 10, 11, 12]] [0, 1, 2, 3, 4, 5, 6, 7, 8, 9, 10, 11, 12, 13] (by kernel_rfl) ?_
      have H := H.drew
      refine k_rd rfl rfl (RS.of rfl rfl (x_move h6)) ?_
      refine k_rd rfl rfl (RS.of rfl rfl (x_move h6)) ?_
      refine k_rd rfl rfl (RS.of rfl rfl (x_nilCheck rfl)) ?_
      refine k_rd rfl rfl (RS.of rfl rfl (x_fieldAddr Try.underlying43 rfl rfl ty29 (by decide) rfl)) ?_
      refine k_rd rfl rfl (RS.of rfl rfl (x_load Try.underlying29 rfl rfl (H.cellL 0 rfl rfl))) ?_
      refine k_rd rfl rfl (RS.of rfl rfl (x_move h1)) ?_
      refine k_rd rfl rfl (RS.of rfl rfl (x_move h8)) ?_
      refine k_rd rfl rfl (RS.of rfl rfl (x_indexAddr Try.underlying29 ty9 rfl rfl (by omega) (by omega))) ?_
      refine k_rd rfl rfl (RS.of rfl rfl (x_load Try.underlying9 rfl rfl hc1)) ?_
      refine k_st rfl rfl rfl (s_build1 Try.underlying29 ty9 rfl (by conv => lhs; whnf) rfl H fun b50 w H => ⟨⟨trivial, ⟨trivial, ⟨trivial, ⟨trivial, ⟨RS.of rfl rfl (x_load Try.underlying29 rfl rfl (H.cellL 1 rfl rfl)), ⟨RS.of rfl rfl (x_fieldAddr Try.underlying43 rfl rfl ty29 (by decide) rfl), ⟨RS.of rfl rfl (x_nilCheck rfl), ⟨RS.of rfl rfl (x_move h6), ⟨RS.of rfl rfl (x_move h6), trivial⟩⟩⟩⟩⟩⟩⟩⟩⟩, ?_⟩)
      refine k_st rfl rfl rfl (s_append Try.underlying29 ty9 rfl (by decide) (by decide) rfl 2 rfl rfl rfl (H.sl 0 rfl) (by simp [Value.oneCell']) (by omega) H fun v51 w H => ⟨⟨trivial, ⟨trivial, ⟨trivial, ⟨trivial, ⟨trivial, ⟨trivial, ⟨trivial, ⟨trivial, ⟨RS.of rfl rfl (x_move h6), trivial⟩⟩⟩⟩⟩⟩⟩⟩⟩, ?_⟩)
      obtain ⟨a51, c51, rfl⟩ := (H.sl 2 rfl).shape
      refine k_rd rfl rfl (RS.of rfl rfl (x_nilCheck rfl)) ?_
      refine k_rd rfl rfl (RS.of rfl rfl (x_fieldAddr Try.underlying43 rfl rfl ty29 (by decide) rfl)) ?_
      refine k_no rfl rfl rfl (s_st 1 rfl ty29 rfl (by conv => lhs; whnf) rfl rfl H fun w H => ⟨⟨trivial, ⟨trivial, ⟨trivial, ⟨trivial, ⟨trivial, ⟨trivial, ⟨trivial, ⟨trivial, ⟨trivial, ⟨trivial, ⟨trivial, trivial⟩⟩⟩⟩⟩⟩⟩⟩⟩⟩⟩, ?_⟩)
      show _
      have H := RefP.mk (ts := addL ts (texts.take k) ++ [y]) (v := .slice a51 ((addL ts (texts.take k)).length + 1) c51) (by rw [List.length_append, List.map_append]; exact H.drop)
      refine WC.region ?_
      refine l_rd rfl rfl (x_move h7) ?_
      refine l_rd rfl rfl (x_move (by conv => lhs; whnf)) ?_
      refine l_st rfl (s_build1 Try.underlying31 ty3 rfl (by conv => lhs; whnf) rfl H fun b56 w H => ?_)
      refine l_st rfl (s_append Try.underlying31 ty3 rfl (by decide) (by decide) rfl 2 rfl rfl rfl (H.sl 0 rfl) (by simp [Value.oneCell']) (by omega) H fun v57 w H => ?_)
      obtain ⟨a57, c57, rfl⟩ := (H.sl 2 rfl).shape
      refine l_rd rfl rfl (x_assign (by conv => lhs; whnf)) ?_
      refine WL.nil ?_
      refine WC.region ?_
      refine l_rd rfl rfl (x_move h8) ?_
      refine l_rd rfl rfl (x_add rfl rfl (by omega) (by omega)) ?_
      refine l_rd rfl rfl (x_assign (by conv => lhs; whnf)) ?_
      refine WL.nil ?_
      have H := H.drop
      rw [← num_new hyk hx] at H
      refine WC.again (⟨k + 1, _, by omega, rfl, (by conv => lhs; whnf), h6, h1, h0, rfl, by rw [addL_take hyk, add1, if_neg hx, List.take_succ_eq_append_getElem (by omega), List.map_append, (List.getElem?_eq_some_iff.1 hyk).2]; exact H⟩) (by show _ - _ < _ - _; rw [h8]; show texts.length - ((k : Int) + 1).toNat < texts.length - (k : Int).toNat; omega)
  ·
    refine WL.nil ?_
    refine WC.cond0 rfl ?_
    refine WC.exit ?_
    refine WC.seq ?_
    refine WC.seq ?_
    have hk2 : k = texts.length := by omega
    subst hk2
    rw [List.take_length] at H
    obtain ⟨vm, H⟩ := RefP.opn H
    obtain ⟨am, cm, rfl⟩ := (H.sl 1 rfl).shape
    have hus := addL_len ts texts
    refine WC.region ?_
    refine l_rd rfl rfl (x_move h6) ?_
    refine l_rd rfl rfl (x_nilCheck rfl) ?_
    refine l_rd rfl rfl (x_fieldAddr Try.underlying43 rfl rfl ty29 (by decide) rfl) ?_
    refine l_rd rfl rfl (x_load Try.underlying29 rfl rfl (H.cellL 0 rfl rfl)) ?_
    refine l_rd rfl rfl (x_lenSlice Try.underlying29 rfl rfl) ?_
    refine l_rdD rfl rfl (x_gtr rfl rfl) (fun h63 => ?_) (fun h63 => ?_)
    ·
      exfalso; omega
    ·
      refine WL.nil ?_
      refine WC.cond0 rfl ?_
      refine WC.skip ?_
      refine WC.seq ?_
      refine WC.region ?_
      refine l_rd rfl rfl (x_move h0) ?_
      refine l_rd rfl rfl (x_move h6) ?_
      refine l_rd rfl rfl (x_nilCheck rfl) ?_
      refine l_rd rfl rfl (x_fieldAddr Try.underlying43 rfl rfl ty29 (by decide) rfl) ?_
      refine l_rd rfl rfl (x_load Try.underlying29 rfl rfl (H.cellL 0 rfl rfl)) ?_
      refine l_rd rfl rfl (x_nilCheck rfl) ?_
      refine l_rd rfl rfl (x_fieldAddr Try.underlying43 rfl rfl ty29 (by decide) rfl) ?_
      refine l_no (s_st 3 rfl ty29 rfl (by conv => lhs; whnf) rfl rfl H fun w H => ?_)
      refine WL.nil ?_
      refine WC.seq ?_
      refine WC.region ?_
      refine l_rd rfl rfl (x_move h7) ?_
      refine l_rd rfl rfl (x_assign (by conv => lhs; whnf)) ?_
      refine l_rd rfl rfl (x_assign ev_c) ?_
      refine WL.nil ?_
      refine WC.ret ?_
      refine atRet ?_
      exact RetM.two rfl (by (conv => lhs; whnf); try rfl) (by (conv => lhs; whnf); try rfl) (⟨_, rfl, by
            have H := Hd.arrT [_, _, _, _, _, _] [3, 1, 2, 5] (by decide) rfl H
            exact (RefP.mk H).swp⟩)

end Go.Proofs.Ytpoahelomhjnaaa
