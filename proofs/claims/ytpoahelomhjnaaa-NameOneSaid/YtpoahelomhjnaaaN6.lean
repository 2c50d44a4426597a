/-
  What functions of this seat do: contracts, proved by walks; each with the conditions that it names.
-/
import Derived.Test.YtpoahelomhjnaaaN5
set_option linter.unusedVariables false
set_option linter.unusedSimpArgs false
namespace Go.Proofs.Ytpoahelomhjnaaa
open Go Go.RowKit KE Go.Proofs
theorem cal17 : Cal Try.prog 17 := ⟨_, Try.func17, rfl, by decide⟩

theorem BookR.le {w : World} {B : Nat} {ts : List ByteArray} (h : BookR w B ts) : ts.length ≤ 140737488355328 := by
  obtain ⟨h0, M, es, cl, v, f, h1, h2, h3, h4⟩ := h; exact h4.le
theorem zip_at {ts : List ByteArray} {k : Nat} {y : ByteArray} (h : ts[k]? = some y) : ts.zipIdx[k]? = some (y, k) := by simp [List.getElem?_zipIdx, h]
theorem zip_split {ts : List ByteArray} {k : Nat} {y : ByteArray} (h : ts[k]? = some y) : ts.zipIdx = ts.zipIdx.take k ++ (y, k) :: ts.zipIdx.drop (k + 1) := by
  have h1 := zip_at h
  obtain ⟨hk, e⟩ := List.getElem?_eq_some_iff.1 h1
  conv => lhs; rw [← List.take_append_drop k ts.zipIdx]
  rw [List.drop_eq_getElem_cons hk, e]
theorem zip_take {ts : List ByteArray} {k : Nat} {y : ByteArray} (h : ts[k]? = some y) : ts.zipIdx.take (k + 1) = ts.zipIdx.take k ++ [(y, k)] := by
  obtain ⟨hk, e⟩ := List.getElem?_eq_some_iff.1 (zip_at h)
  rw [List.take_succ_eq_append_getElem hk, e]
theorem news_at {ts texts : List ByteArray} {k : Nat} {t : ByteArray} (h : texts[k]? = some t) (hn : ¬ (t ∈ ts ∨ t ∈ newsA ts [] (texts.take k))) : ∃ r, news ts texts = newsA ts [] (texts.take k) ++ t :: r := by
  have hk := (List.getElem?_eq_some_iff.1 h).1
  obtain ⟨r, hr⟩ := news_split (ts := ts) (texts := texts) (k := k + 1) (by omega)
  exact ⟨r, by rw [hr, news_take h, if_neg hn]; simp⟩
theorem it33 {s : Sy} {B bx : Nat} {ts : List ByteArray} : IT Try.prog s 33 [.pointer (some ⟨bx, 0, none⟩)] (fun (p : ByteArray × Nat) vs => fun _ => vs = [I (p.2 : Nat), S p.1]) ts.zipIdx (star (pt bx (.cells #[.pointer (some ⟨B, 0, none⟩)] 25 (0, 0))) (BookP B ts)) (fun _ => star (pt bx (.cells #[.pointer (some ⟨B, 0, none⟩)] 25 (0, 0))) (BookP B ts)) := by
  intro l J X w L hy H
  have H := (H.swp).unstar
  have hle := (BookP.rd H 1 rfl).le
  refine CC.of (N := 21) Try.func33 rfl rfl rfl ?_
  refine WC.seq ?_
  refine WC.region ?_
  refine l_rd rfl rfl (x_load Try.underlying25 rfl rfl (H.cellL 0 rfl rfl)) ?_
  refine l_st rfl (s_callL cal17 (c17 _ (BookP.rd H 1 rfl)) ?_)
  rintro _ w ⟨rfl, e1⟩
  have H := H.ext e1
  refine l_rd rfl rfl (x_move ev_c) ?_
  refine WL.nil ?_
  refine WC.block ?_
  refine WC.loop (fun ρ ds w => ∃ k : Nat, k ≤ ts.length ∧ ρ 6 = I k ∧ ρ 5 = I ts.length ∧ ρ 0 = .func (.yield l) #[] #[] ∧ ρ 1 = .pointer (some ⟨bx, 0, none⟩) ∧ ds = [] ∧ Hd s w (pt bx (.cells #[.pointer (some ⟨B, 0, none⟩)] 25 (0, 0)) :: BookP B ts :: J (ts.zipIdx.take k) :: L)) (fun ρ w => ts.length - (match ρ 6 with | .int _ k => k.toNat | _ => 0)) (⟨0, Nat.zero_le _, rfl, rfl, rfl, rfl, rfl, H⟩) ?_
  repeat clear H
  rintro ρ ds w ⟨k, hk, h6, h5, h0, h1, rfl, H⟩
  refine WC.seq ?_
  refine WC.region ?_
  refine l_rdD rfl rfl (x_lss h6 h5) (fun h7 => ?_) (fun h7 => ?_)
  ·
    refine WL.nil ?_
    refine WC.seq ?_
    refine WC.cond1 rfl ?_
    refine WC.skip ?_
    refine WC.seq ?_
    refine WC.block ?_
    refine WC.seq ?_
    refine WC.region ?_
    refine l_rd rfl rfl (x_move h6) ?_
    refine l_rd rfl rfl (x_assign (by conv => lhs; whnf)) ?_
    refine WL.nil ?_
    refine WC.seq ?_
    obtain ⟨y, hyk⟩ := lt_get (show k < ts.length by omega)
    obtain ⟨hn, M, es, cl, v, f, hB, hM, hv, hr⟩ := BookP.rd H 1 rfl
    obtain ⟨a, c, rfl⟩ := hr.shape
    obtain ⟨b1, o1, rfl, hc1⟩ := hr.el hyk
    refine WC.region ?_
    refine l_rd rfl rfl (x_move h0) ?_
    refine l_rd rfl rfl (x_move (by conv => lhs; whnf)) ?_
    refine l_rd rfl rfl (x_load Try.underlying25 rfl h1 (H.cellL 0 rfl rfl)) ?_
    refine l_rd rfl rfl (x_nilCheck rfl) ?_
    refine l_rd rfl rfl (x_fieldAddr Try.underlying53 rfl rfl ty29 (by decide) rfl) ?_
    refine l_rd rfl rfl (x_load Try.underlying29 rfl rfl (cell_ofL hB rfl)) ?_
    refine l_rd rfl rfl (x_move (by conv => lhs; whnf)) ?_
    refine l_rd rfl rfl (x_indexAddr Try.underlying29 ty9 rfl rfl (by omega) (by omega)) ?_
    refine l_rd rfl rfl (x_load Try.underlying9 rfl rfl hc1) ?_
    refine l_st rfl (s_yieldL rfl (hy (ts.zipIdx.take k) (y, k) (ts.zipIdx.drop (k + 1)) [I k, S y] _ _ (zip_split hyk) ((Hd.pure rfl H).pick 3 rfl)) ?_)
    rintro v w (⟨rfl, H⟩ | ⟨rfl, H⟩)
    ·
      have H := H.arr_head3
      refine l_rd rfl rfl (x_not rfl) ?_
      refine WL.nil ?_
      refine WC.cond0 rfl ?_
      refine WC.skip ?_
      refine WC.region ?_
      refine l_rd rfl rfl (x_add h6 rfl (by omega) (by omega)) ?_
      refine l_rd rfl rfl (x_move (by conv => lhs; whnf)) ?_
      refine WL.nil ?_
      refine WC.again (⟨k + 1, by omega, rfl, h5, h0, h1, rfl, by rw [zip_take hyk]; exact H⟩) (by show _ - _ < _ - _; rw [h6]; show ts.length - ((k : Int) + 1).toNat < ts.length - (k : Int).toNat; omega)
    ·
      refine l_rd rfl rfl (x_not rfl) ?_
      refine WL.nil ?_
      refine WC.cond1 rfl ?_
      refine WC.ret ?_
      refine atRet ?_
      exact RetM.none' rfl (.inr ⟨_, (y, k), _, zip_split hyk, (H.arr_head3.star).swp⟩)
  ·
    refine WL.nil ?_
    refine WC.seq ?_
    refine WC.cond0 rfl ?_
    refine WC.exit ?_
    refine atEnd ?_
    exact RetM.none' rfl (.inl (by rw [List.take_of_length_le (by simp; omega)] at H; exact H.star.swp))

theorem it32 {s : Sy} {B bx1 bx2 M : Nat} {v tv : Value} {ts texts : List ByteArray} {T : Hp} (hT : ∀ w (A : List Hp), Hd s w (T :: A) → RdL w tv S texts) : ITz Try.prog s 32 [.pointer (some ⟨bx1, 0, none⟩), .pointer (some ⟨bx2, 0, none⟩)] (fun (t : ByteArray) vs => fun _ => vs = [S t]) (news ts texts) (pt B (.cells #[.map (some M), v] 53 (0, 0))) (star (pt bx1 (.cells #[tv] 29 (0, 0))) (star (pt bx2 (.cells #[.pointer (some ⟨B, 0, none⟩)] 25 (0, 0))) (star (Mp TS M (ents ts)) T))) (fun _ => star (pt bx1 (.cells #[tv] 29 (0, 0))) (star (pt bx2 (.cells #[.pointer (some ⟨B, 0, none⟩)] 25 (0, 0))) (star (Mp TS M (ents ts)) T))) := by
  intro l J X w L hy H
  have H := (((Hd.unstarAt [_, _] (Hd.unstarAt [_] H.swp.unstar)).pick 4 rfl)).unstar
  have hr0 := hT _ _ (H.pick 5 rfl)
  obtain ⟨a, c, rfl⟩ := hr0.shape
  have hle := hr0.le
  refine CC.of (N := 41) Try.func32 rfl rfl rfl ?_
  refine WC.scope ?_
  refine WC.seq ?_
  refine WC.region ?_
  refine l_st rfl (s_makeMap H fun m9 w H => ?_)
  refine l_rd rfl rfl (x_assign (by conv => lhs; whnf)) ?_
  refine WL.nil ?_
  refine WC.seq ?_
  refine WC.label ?_
  refine WC.seq ?_
  have H := (H.weak (Mp.made TS)).arr_head3
  refine WC.region ?_
  refine l_rd rfl rfl (x_load Try.underlying29 rfl rfl (H.cellL 3 rfl rfl)) ?_
  refine l_rd rfl rfl (x_lenSlice Try.underlying29 rfl rfl) ?_
  refine l_rd rfl rfl (x_move ev_c) ?_
  refine WL.nil ?_
  refine WC.block ?_
  refine WC.loop (fun ρ ds w => ∃ k : Nat, k ≤ texts.length ∧ ρ 12 = I k ∧ ρ 11 = I texts.length ∧ ρ 10 = .slice a texts.length c ∧ ρ 4 = .map (some m9) ∧ ρ 0 = .func (.yield l) #[] #[] ∧ ρ 1 = .pointer (some ⟨bx1, 0, none⟩) ∧ ρ 2 = .pointer (some ⟨bx2, 0, none⟩) ∧ ds = [] ∧ Hd s w (pt B (.cells #[.map (some M), v] 53 (0, 0)) :: J (newsA ts [] (texts.take k)) :: Mp TS m9 (seenL (newsA ts [] (texts.take k))) :: pt bx1 (.cells #[.slice a texts.length c] 29 (0, 0)) :: pt bx2 (.cells #[.pointer (some ⟨B, 0, none⟩)] 25 (0, 0)) :: Mp TS M (ents ts) :: T :: L)) (fun ρ w => texts.length - (match ρ 12 with | .int _ k => k.toNat | _ => 0)) (⟨0, Nat.zero_le _, rfl, rfl, rfl, rfl, rfl, rfl, rfl, rfl, H⟩) ?_
  repeat clear H
  rintro ρ ds w ⟨k, hk, h12, h11, h10, h4, h0, h1, h2, rfl, H⟩
  refine WC.seq ?_
  refine WC.region ?_
  refine l_rdD rfl rfl (x_lss h12 h11) (fun h13 => ?_) (fun h13 => ?_)
  ·
    refine WL.nil ?_
    refine WC.seq ?_
    refine WC.cond1 rfl ?_
    refine WC.skip ?_
    refine WC.seq ?_
    refine WC.block ?_
    refine WC.seq ?_
    obtain ⟨y, hyk⟩ := lt_get (show k < texts.length by omega)
    obtain ⟨b1, o1, rfl, hc1⟩ := (hT _ _ (H.pick 6 rfl)).el hyk
    refine WC.region ?_
    refine l_rd rfl rfl (x_indexAddr Try.underlying29 ty9 h10 h12 (by omega) (by omega)) ?_
    refine l_rd rfl rfl (x_load Try.underlying9 rfl rfl hc1) ?_
    refine l_rd rfl rfl (x_assign (by conv => lhs; whnf)) ?_
    refine WL.nil ?_
    refine WC.seq ?_
    refine WC.seq ?_
    obtain ⟨es, cl, hm, hv⟩ := Mp.obj TS H 5 rfl
    by_cases hx : y ∈ ts
    ·
      refine WC.region ?_
      refine l_rd rfl rfl (x_load Try.underlying25 rfl h2 (H.cellL 4 rfl rfl)) ?_
      refine l_rd rfl rfl (x_nilCheck rfl) ?_
      refine l_rd rfl rfl (x_fieldAddr Try.underlying53 rfl rfl ty51 (by decide) rfl) ?_
      refine l_rd rfl rfl (x_load Try.underlying51 rfl rfl (H.cellL 0 rfl rfl)) ?_
      refine l_rd rfl rfl (x_move (by conv => lhs; whnf)) ?_
      refine l_rd rfl rfl (x_look TS Try.underlying51 ty3 rfl rfl hm hv ((alook_ents y ts).trans (if_pos hx))) ?_
      refine l_rd rfl rfl (x_move (by conv => lhs; whnf)) ?_
      refine l_rd rfl rfl (x_extract rfl rfl) ?_
      refine l_rd rfl rfl (x_extract rfl rfl) ?_
      refine l_rd rfl rfl (x_assign (by conv => lhs; whnf)) ?_
      refine l_rd rfl rfl (x_assign (by conv => lhs; whnf)) ?_
      refine WL.nil ?_
      refine WC.seq ?_
      refine WC.region ?_
      refine l_rd rfl rfl (x_move (by conv => lhs; whnf)) ?_
      refine l_rd rfl rfl (x_move (by conv => lhs; whnf)) ?_
      refine l_gn (wantN rfl rfl rfl) rfl ?_
      refine l_gn (wantN rfl rfl rfl) rfl ?_
      refine l_gn (wantN rfl rfl rfl) rfl ?_
      refine l_gn (wantN rfl rfl rfl) rfl ?_
      refine l_rd rfl rfl (x_pick1 rfl ev_c) ?_
      refine WL.nil ?_
      refine WC.cond1 rfl ?_
      refine WC.exit ?_
      refine WC.region ?_
      refine l_rd rfl rfl (x_add h12 rfl (by omega) (by omega)) ?_
      refine l_rd rfl rfl (x_move (by conv => lhs; whnf)) ?_
      refine WL.nil ?_
      refine WC.again (⟨k + 1, by omega, rfl, h11, h10, h4, h0, h1, h2, rfl, by rw [news_take hyk]; rw [if_pos (.inl hx)]; exact H⟩) (by show _ - _ < _ - _; rw [h12]; show texts.length - ((k : Int) + 1).toNat < texts.length - (k : Int).toNat; omega)
    ·
      refine WC.region ?_
      refine l_rd rfl rfl (x_load Try.underlying25 rfl h2 (H.cellL 4 rfl rfl)) ?_
      refine l_rd rfl rfl (x_nilCheck rfl) ?_
      refine l_rd rfl rfl (x_fieldAddr Try.underlying53 rfl rfl ty51 (by decide) rfl) ?_
      refine l_rd rfl rfl (x_load Try.underlying51 rfl rfl (H.cellL 0 rfl rfl)) ?_
      refine l_rd rfl rfl (x_move (by conv => lhs; whnf)) ?_
      refine l_rd rfl rfl (x_look TS Try.underlying51 ty3 rfl rfl hm hv ((alook_ents y ts).trans (if_neg hx))) ?_
      refine l_rd rfl rfl (x_move (by conv => lhs; whnf)) ?_
      refine l_rd rfl rfl (x_extract rfl rfl) ?_
      refine l_rd rfl rfl (x_extract rfl rfl) ?_
      refine l_rd rfl rfl (x_assign (by conv => lhs; whnf)) ?_
      refine l_rd rfl rfl (x_assign (by conv => lhs; whnf)) ?_
      refine WL.nil ?_
      refine WC.seq ?_
      obtain ⟨es2, cl2, hm2, hv2⟩ := Mp.obj TS H 2 rfl
      by_cases hs : y ∈ newsA ts [] (texts.take k)
      ·
        refine WC.region ?_
        refine l_rd rfl rfl (x_move (by conv => lhs; whnf)) ?_
        refine l_rd rfl rfl (x_move (by conv => lhs; whnf)) ?_
        refine l_gy (wantY rfl rfl rfl) rfl rfl (x_move h4) ?_
        refine l_gy (wantY rfl rfl rfl) rfl rfl (x_move (by conv => lhs; whnf)) ?_
        refine l_gy (wantY rfl rfl rfl) rfl rfl (x_look TS Try.underlying51 ty3 rfl rfl hm2 hv2 ((alook_seen y _).trans (if_pos hs))) ?_
        refine l_gyD (wantY rfl rfl rfl) rfl rfl (x_gtr rfl rfl) (fun h30 => ?_) (fun h30 => ?_)
        ·
          refine l_rd rfl rfl (x_pick0 rfl (by conv => lhs; whnf)) ?_
          refine WL.nil ?_
          refine WC.cond1 rfl ?_
          refine WC.exit ?_
          refine WC.region ?_
          refine l_rd rfl rfl (x_add h12 rfl (by omega) (by omega)) ?_
          refine l_rd rfl rfl (x_move (by conv => lhs; whnf)) ?_
          refine WL.nil ?_
          refine WC.again (⟨k + 1, by omega, rfl, h11, h10, h4, h0, h1, h2, rfl, by rw [news_take hyk]; rw [if_pos (.inr hs)]; exact H⟩) (by show _ - _ < _ - _; rw [h12]; show texts.length - ((k : Int) + 1).toNat < texts.length - (k : Int).toNat; omega)
        ·
          exact absurd h30 (by decide)
      ·
        refine WC.region ?_
        refine l_rd rfl rfl (x_move (by conv => lhs; whnf)) ?_
        refine l_rd rfl rfl (x_move (by conv => lhs; whnf)) ?_
        refine l_gy (wantY rfl rfl rfl) rfl rfl (x_move h4) ?_
        refine l_gy (wantY rfl rfl rfl) rfl rfl (x_move (by conv => lhs; whnf)) ?_
        refine l_gy (wantY rfl rfl rfl) rfl rfl (x_look TS Try.underlying51 ty3 rfl rfl hm2 hv2 ((alook_seen y _).trans (if_neg hs))) ?_
        refine l_gyD (wantY rfl rfl rfl) rfl rfl (x_gtr rfl rfl) (fun h30 => ?_) (fun h30 => ?_)
        ·
          exact absurd h30 (by decide)
        ·
          refine l_rd rfl rfl (x_pick0 rfl (by conv => lhs; whnf)) ?_
          refine WL.nil ?_
          refine WC.cond0 rfl ?_
          refine WC.skip ?_
          refine WC.seq ?_
          obtain ⟨es2, cl2, hm2, hv2⟩ := Mp.obj TS H 2 rfl
          refine WC.region ?_
          refine l_rd rfl rfl (x_move h4) ?_
          refine l_rd rfl rfl (x_move (by conv => lhs; whnf)) ?_
          refine l_rd rfl rfl (x_look TS Try.underlying51 ty3 rfl rfl hm2 hv2 ((alook_seen y _).trans (if_neg hs))) ?_
          refine l_rd rfl rfl (x_add rfl rfl (by omega) (by omega)) ?_
          refine l_no (s_mapUpdate TS Try.underlying51 2 rfl rfl rfl (by conv => lhs; whnf) H fun w H => ?_)
          refine WL.nil ?_
          refine WC.seq ?_
          refine WC.region ?_
          refine l_rd rfl rfl (x_move h0) ?_
          refine l_rd rfl rfl (x_move (by conv => lhs; whnf)) ?_
          refine l_st rfl (s_yieldL rfl (hy (newsA ts [] (texts.take k)) y _ [S y] _ _ (news_at hyk (fun h => h.elim hx hs)).choose_spec (Hd.pure rfl H.star).swp) ?_)
          rintro v w (⟨rfl, H⟩ | ⟨rfl, H⟩)
          ·
            have H := H.unstar
            refine l_rd rfl rfl (x_not rfl) ?_
            refine WL.nil ?_
            refine WC.cond0 rfl ?_
            refine WC.skip ?_
            refine WC.region ?_
            refine l_rd rfl rfl (x_add h12 rfl (by omega) (by omega)) ?_
            refine l_rd rfl rfl (x_move (by conv => lhs; whnf)) ?_
            refine WL.nil ?_
            refine WC.again (⟨k + 1, by omega, rfl, h11, h10, h4, h0, h1, h2, rfl, by rw [news_take hyk]; rw [if_neg (fun h => h.elim hx hs), ← seen_succ hs]; exact H⟩) (by show _ - _ < _ - _; rw [h12]; show texts.length - ((k : Int) + 1).toNat < texts.length - (k : Int).toNat; omega)
          ·
            refine l_rd rfl rfl (x_not rfl) ?_
            refine WL.nil ?_
            refine WC.cond1 rfl ?_
            refine WC.ret ?_
            refine atRet ?_
            exact RetM.none' rfl (.inr ⟨_, y, _, (news_at hyk (fun h => h.elim hx hs)).choose_spec, Hd.starAt [_] (Hd.starAt [_, _] (Hd.starAt [_, _, _] H.swp.drop))⟩)
  ·
    refine WL.nil ?_
    refine WC.seq ?_
    refine WC.cond0 rfl ?_
    refine WC.exit ?_
    refine atEnd ?_
    exact RetM.none' rfl (.inl (by rw [List.take_of_length_le (by omega)] at H; exact Hd.starAt [_] (Hd.starAt [_, _] (Hd.starAt [_, _, _] H.star.swp.drop))))

end Go.Proofs.Ytpoahelomhjnaaa
