/-
  What functions of this seat do: contracts, proved by walks; each with the conditions that it names.
-/
import Derived.Test.YtpoahelomhjnaaaN7
set_option linter.unusedVariables false
set_option linter.unusedSimpArgs false
namespace Go.Proofs.Ytpoahelomhjnaaa
open Go Go.RowKit KE Go.Proofs
theorem ty31 : Ty Try.prog 31 (.slice none 0 0) 1 24 := Ty.of (by kernel_rfl)
theorem ty32 : Ty Try.prog 32 (.int .i64 0) 1 8 := Ty.of (by kernel_rfl)
theorem cal27 : Cal Try.prog 27 := ⟨_, Try.func27, rfl, by decide⟩

def ofI (b2 b4 b5 b6 B : Nat) (pre : List ByteArray) : Hp := fun h => ∃ mv : Value, True ∧ star (pt b2 (.cells #[.pointer (some ⟨B, 0, none⟩)] 25 (0, 0))) (star (pt b4 (.cells #[.slice none 0 0] 31 (0, 0))) (star (pt b5 (.cells #[I 0] 32 (0, 0))) (star (pt b6 (.cells #[mv] 29 (0, 0))) (Sl mv 9 1 pre.length (pre.map S))))) h
theorem ofI_opn {s : Sy} {w : World} {L : List Hp} {b2 b4 b5 b6 B : Nat} {pre : List ByteArray} (H : Hd s w (ofI b2 b4 b5 b6 B pre :: L)) : ∃ mv, Hd s w (pt b2 (.cells #[.pointer (some ⟨B, 0, none⟩)] 25 (0, 0)) :: pt b4 (.cells #[.slice none 0 0] 31 (0, 0)) :: pt b5 (.cells #[I 0] 32 (0, 0)) :: pt b6 (.cells #[mv] 29 (0, 0)) :: Sl mv 9 1 pre.length (pre.map S) :: L) := by
  obtain ⟨mv, _, h⟩ := Hd.opn (φ := fun _ => True) (q := fun mv : Value => star (pt b2 (.cells #[.pointer (some ⟨B, 0, none⟩)] 25 (0, 0))) (star (pt b4 (.cells #[.slice none 0 0] 31 (0, 0))) (star (pt b5 (.cells #[I 0] 32 (0, 0))) (star (pt b6 (.cells #[mv] 29 (0, 0))) (Sl mv 9 1 pre.length (pre.map S)))))) H (fun x hx => hx)
  exact ⟨mv, Hd.unstarAt [_, _, _] (Hd.unstarAt [_, _] (Hd.unstarAt [_] h.unstar))⟩
theorem ofI_mk {s : Sy} {w : World} {L : List Hp} {b2 b4 b5 b6 B : Nat} {pre : List ByteArray} {mv : Value} (H : Hd s w (pt b2 (.cells #[.pointer (some ⟨B, 0, none⟩)] 25 (0, 0)) :: pt b4 (.cells #[.slice none 0 0] 31 (0, 0)) :: pt b5 (.cells #[I 0] 32 (0, 0)) :: pt b6 (.cells #[mv] 29 (0, 0)) :: Sl mv 9 1 pre.length (pre.map S) :: L)) : Hd s w (ofI b2 b4 b5 b6 B pre :: L) :=
  ((Hd.starAt [_] (Hd.starAt [_, _] (Hd.starAt [_, _, _] H))).star).weak fun h hh => ⟨mv, trivial, hh⟩
theorem app_take {ts xs : List ByteArray} {k : Nat} {y : ByteArray} (hn : (ts ++ xs).Nodup) (hy : xs[k]? = some y) : ts ++ xs.take (k + 1) = (ts ++ xs.take k) ++ [y] ∧ (¬ y ∈ ts ++ xs.take k) ∧ (ts ++ xs.take k).length = ts.length + k := by
  obtain ⟨hk, e⟩ := List.getElem?_eq_some_iff.1 hy
  have h1 : ts ++ xs.take (k + 1) = (ts ++ xs.take k) ++ [y] := by rw [List.take_succ_eq_append_getElem hk, e, List.append_assoc]
  refine ⟨h1, ?_, by simp; omega⟩
  have h2 : ((ts ++ xs.take k) ++ [y] ++ xs.drop (k + 1)).Nodup := by rw [← h1, List.append_assoc, List.take_append_drop]; exact hn
  have h3 := (List.nodup_append.1 h2).1
  intro hm
  exact (List.nodup_append.1 h3).2.2 y hm y (by simp) rfl
theorem c10 {s : Sy} {L : List Hp} {B : Nat} {tv : Value} {ts texts : List ByteArray} {T : Hp} (w : World) (H : Hd s w (BookP B ts :: T :: L)) (hT : ∀ w (A : List Hp), Hd s w (T :: A) → RdL w tv S texts) (h2 : ts.length + texts.length ≤ 65536) : CC Try.prog 10 [.pointer (some ⟨B, 0, none⟩), tv].toArray w (fun r w' => ∃ ov, r = .tuple #[ov, I 0] ∧ Hd s w' (Sl ov 3 1 texts.length (texts.map fun t => I (fIdx (addL ts texts) t)) :: BookP B (addL ts texts) :: T :: L)) := by
  obtain ⟨a, c, rfl⟩ := (hT w _ H.swp).shape
  refine CC.of (N := 76) Try.func10 rfl rfl rfl ?_
  refine WC.seq ?_
  refine WC.region ?_
  refine l_st rfl (s_box (by conv => lhs; whnf) H fun b2 w H => ?_)
  refine l_st rfl (s_alloc ty31 H fun b4 w H => ?_)
  refine l_st rfl (s_alloc ty32 H fun b5 w H => ?_)
  refine WL.nil ?_
  refine WC.seq ?_
  refine WC.seq ?_
  obtain ⟨hn0, M0, es0, cl0, v0, f0, hB0, hM0, hv0, hr0⟩ := BookP.rd H 3 rfl
  refine WC.region ?_
  refine l_rd rfl rfl (x_load Try.underlying25 rfl rfl (H.cellL 2 rfl rfl)) ?_
  refine l_st rfl (s_callL cal26 (c26 _ hB0) ?_)
  rintro _ w ⟨rfl, e1⟩
  have H := H.ext e1
  refine l_rd rfl rfl (x_not rfl) ?_
  refine WL.nil ?_
  refine WC.cond0 rfl ?_
  refine WC.skip ?_
  refine WC.seq ?_
  refine WC.region ?_
  refine l_st rfl (s_alloc ty29 H fun b6 w H => ?_)
  refine WL.nil ?_
  refine WC.seq ?_
  refine WC.seq ?_
  refine WC.region ?_
  refine l_rd rfl rfl (x_load Try.underlying25 rfl rfl (H.cellL 3 rfl rfl)) ?_
  refine l_rd rfl rfl (x_move (by conv => lhs; whnf)) ?_
  refine l_st rfl (s_callL cal27 (c27 _ H rfl) ?_)
  rintro _ w ⟨x1, x2, rfl, H⟩
  refine WL.nil ?_
  refine WC.block ?_
  have H := H.pick 6 rfl
  obtain ⟨M, v, hn, H⟩ := BookP.opn H
  obtain ⟨av, cv, rfl⟩ := (H.sl 2 rfl).shape
  have H := Hd.nil H 9 1
  have H := Hd.arrT [_, _, _, _, _, _, _, _, _, _, _] [9, 8, 7, 6, 0, 1, 4, 5, 2, 10, 3] (by decide) rfl H
  have H := (ofI_mk (B := B) (pre := []) H).swp.star
  have H := Hd.starAt [_] (Hd.starAt [_, _] (Hd.starAt [_, _, _] H))
  refine WC.rangeFnZ (P := Try.prog) (caps := [.pointer (some ⟨x1, 0, none⟩), .pointer (some ⟨x2, 0, none⟩)]) (E := fun (t : ByteArray) vs => fun _ => vs = [S t]) (xs := news ts texts) (A := star (pt x1 (.cells #[.slice a texts.length c] 29 (0, 0))) (star (pt x2 (.cells #[.pointer (some ⟨B, 0, none⟩)] 25 (0, 0))) (star (Mp TS M (ents ts)) T))) (B := fun _ => star (pt x1 (.cells #[.slice a texts.length c] 29 (0, 0))) (star (pt x2 (.cells #[.pointer (some ⟨B, 0, none⟩)] 25 (0, 0))) (star (Mp TS M (ents ts)) T))) (I := ofI b2 b4 b5 b6 B) (X := fun _ _ => fun _ => False) (Z := pt B (.cells #[.map (some M), .slice av ts.length cv] 53 (0, 0))) (L := Sl (.slice av ts.length cv) 9 1 ts.length (ts.map S) :: L) rfl cal32 (by decide) (fun x vs h hv => by have : vs = _ := hv; rw [this]; rfl) (it32 hT) H ?_ ?_ ?_
  ·
    intro l pre x rest vs w L' L2 hxs hrec H
    obtain ⟨hh, _, hvs⟩ := H.fact_at 1 rfl
    have hvs : vs = [S x] := hvs
    subst hvs
    refine WC.region ?_
    refine l_rd rfl rfl (x_assign (by conv => lhs; whnf)) ?_
    refine WL.nil ?_
    refine ⟨⟨[_, _], H⟩, fun w2 hw2 => ?_⟩
    clear hrec
    have H := Hd.drop (Hd.swp (hw2 [_, _] H))
    clear hw2
    have H := H.unstar.swp
    obtain ⟨mv, H⟩ := ofI_opn H
    obtain ⟨am, cm, rfl⟩ := (H.sl 4 rfl).shape
    have hlt : pre.length < texts.length := by
      have h5 : (news ts texts).length ≤ _ := newsA_len ts texts []
      rw [hxs] at h5; simp at h5; omega
    refine WC.block ?_
    refine WC.seq ?_
    refine WC.seq ?_
    refine WC.draw mixed [] [[], [0], [0, 1], [0, 1, 2], [0, 1, 2, 3], [], [5], [0, 1, 2, 3, 4, 5, 6], [0, 1, 2, 3, 4, 5, 6, 7]] [0, 1, 2, 3, 4, 5, 6, 7, 8] (by kernel_rfl) ?_
    have H := H.drew
    refine k_rd rfl rfl (RS.of rfl rfl (x_load Try.underlying25 rfl rfl (H.cellL 0 rfl rfl))) ?_
    refine k_rd rfl rfl (RS.of rfl rfl (x_nilCheck rfl)) ?_
    refine k_rd rfl rfl (RS.of rfl rfl (x_fieldAddr Try.underlying53 rfl rfl ty29 (by decide) rfl)) ?_
    refine k_rd rfl rfl (RS.of rfl rfl (x_load Try.underlying29 rfl rfl (H.cellL 5 rfl rfl))) ?_
    refine k_rd rfl rfl (RS.of rfl rfl (x_lenSlice Try.underlying29 rfl rfl)) ?_
    refine k_rd rfl rfl (RS.of rfl rfl (x_load Try.underlying29 rfl rfl (H.cellL 3 rfl rfl))) ?_
    refine k_rd rfl rfl (RS.of rfl rfl (x_lenSlice Try.underlying29 rfl rfl)) ?_
    refine k_rd rfl rfl (RS.of rfl rfl (x_add rfl rfl (by omega) (by omega))) ?_
    refine k_rdD rfl rfl rfl rfl (x_geq rfl rfl) (fun h27 => ?_) (fun h27 => ?_)
    ·
      exfalso; omega
    ·
      show _
      refine WC.cond0 rfl ?_
      refine WC.skip ?_
      refine WC.region ?_
      refine l_rd rfl rfl (x_load Try.underlying29 rfl rfl (H.cellL 3 rfl rfl)) ?_
      refine l_rd rfl rfl (x_move (by conv => lhs; whnf)) ?_
      refine l_st rfl (s_build1 Try.underlying29 ty9 rfl (by conv => lhs; whnf) rfl H fun b30 w H => ?_)
      refine l_st rfl (s_append Try.underlying29 ty9 rfl (by decide) (by decide) rfl 5 rfl rfl rfl (H.sl 0 rfl) (by simp [Value.oneCell']) (by omega) H fun v31 w H => ?_)
      obtain ⟨a31, c31, rfl⟩ := (H.sl 5 rfl).shape
      refine l_no (s_st 4 rfl ty29 rfl (by conv => lhs; whnf) rfl rfl H fun w H => ?_)
      refine WL.nil ?_
      exact (ofI_mk (by simpa using H.drop)).swp.star
  ·
    intro w m H
    have H := H.unstar.swp
    obtain ⟨mv, H⟩ := ofI_opn H
    obtain ⟨am, cm, rfl⟩ := (H.sl 4 rfl).shape
    have H := Hd.unstarAt [_, _, _, _, _, _, _, _] (Hd.unstarAt [_, _, _, _, _, _, _] (Hd.unstarAt [_, _, _, _, _, _] H))
    have H := Hd.arrT [_, _, _, _, _, _, _, _, _, _, _, _] [0, 1, 2, 3, 4, 5, 8, 11, 10, 9] (by decide) rfl H
    have hnd := news_nodup hn texts
    have hnl : (news ts texts).length ≤ texts.length := by simpa using newsA_len ts texts []
    refine WC.seq ?_
    refine WC.seq ?_
    refine WC.region ?_
    refine l_rd rfl rfl (x_load Try.underlying29 rfl rfl (H.cellL 3 rfl rfl)) ?_
    refine l_rd rfl rfl (x_lenSlice Try.underlying29 rfl rfl) ?_
    refine l_rd rfl rfl (x_move ev_c) ?_
    refine WL.nil ?_
    refine WC.block ?_
    refine WC.loop (fun ρ ds w => ∃ (k : Nat) (vv : Value), k ≤ (news ts texts).length ∧ ρ 34 = I k ∧ ρ 33 = I (news ts texts).length ∧ ρ 32 = .slice am (news ts texts).length cm ∧ ρ 1 = .slice a texts.length c ∧ ρ 2 = .pointer (some ⟨b2, 0, none⟩) ∧ ρ 4 = .pointer (some ⟨b4, 0, none⟩) ∧ ρ 5 = .pointer (some ⟨b5, 0, none⟩) ∧ ds = [m] ∧ Hd s w (pt b2 (.cells #[.pointer (some ⟨B, 0, none⟩)] 25 (0, 0)) :: pt b4 (.cells #[.slice none 0 0] 31 (0, 0)) :: pt b5 (.cells #[I 0] 32 (0, 0)) :: pt b6 (.cells #[.slice am (news ts texts).length cm] 29 (0, 0)) :: Sl (.slice am (news ts texts).length cm) 9 1 (news ts texts).length ((news ts texts).map S) :: pt B (.cells #[.map (some M), vv] 53 (0, 0)) :: Mp TS M (ents (ts ++ (news ts texts).take k)) :: Sl vv 9 1 (ts.length + k) ((ts ++ (news ts texts).take k).map S) :: pt m (.deferred (some [])) :: T :: L)) (fun ρ w => (news ts texts).length - (match ρ 34 with | .int _ k => k.toNat | _ => 0)) (⟨0, _, Nat.zero_le _, rfl, rfl, rfl, rfl, rfl, rfl, rfl, rfl, by rw [List.take_zero, List.append_nil]; exact H⟩) ?_
    repeat clear H
    rintro ρ ds w ⟨k, vv, hk, h34, h33, h32, h1, h2', h4, h5, rfl, H⟩
    refine WC.seq ?_
    refine WC.region ?_
    refine l_rdD rfl rfl (x_lss h34 h33) (fun h35 => ?_) (fun h35 => ?_)
    ·
      refine WL.nil ?_
      refine WC.seq ?_
      refine WC.cond1 rfl ?_
      refine WC.skip ?_
      refine WC.seq ?_
      refine WC.block ?_
      refine WC.seq ?_
      obtain ⟨y, hyk⟩ := lt_get (show k < (news ts texts).length by omega)
      obtain ⟨b1, o1, rfl, hc1⟩ := (show RdL w _ S (news ts texts) from H.sl 4 rfl).el hyk
      obtain ⟨av2, cv2, rfl⟩ := (H.sl 7 rfl).shape
      obtain ⟨hs1, hny, hl1⟩ := app_take hnd hyk
      refine WC.region ?_
      refine l_rd rfl rfl (x_indexAddr Try.underlying29 ty9 h32 h34 (by omega) (by omega)) ?_
      refine l_rd rfl rfl (x_load Try.underlying9 rfl rfl hc1) ?_
      refine l_rd rfl rfl (x_assign (by conv => lhs; whnf)) ?_
      refine WL.nil ?_
      refine WC.seq ?_
      refine WC.draw mixed [10] [[], [0], [0, 1], [0, 1, 2], [], [], [5], [5, 6], [5, 6, 7], [5, 6, 7, 8], [0, 1, 2, 3, 4, 5, 6, 7, 8, 9]] [0, 1, 2, 3, 4, 5, 6, 7, 8, 9, 10] (by kernel_rfl) ?_
      have H := H.drew
      refine k_rd rfl rfl (RS.of rfl rfl (x_load Try.underlying25 rfl h2' (H.cellL 0 rfl rfl))) ?_
      refine k_rd rfl rfl (RS.of rfl rfl (x_nilCheck rfl)) ?_
      refine k_rd rfl rfl (RS.of rfl rfl (x_fieldAddr Try.underlying53 rfl rfl ty51 (by decide) rfl)) ?_
      refine k_rd rfl rfl (RS.of rfl rfl (x_load Try.underlying51 rfl rfl (H.cellL 5 rfl rfl))) ?_
      refine k_rd rfl rfl (RS.of rfl rfl (x_move (by conv => lhs; whnf))) ?_
      refine k_rd rfl rfl (RS.of rfl rfl (x_load Try.underlying25 rfl h2' (H.cellL 0 rfl rfl))) ?_
      refine k_rd rfl rfl (RS.of rfl rfl (x_nilCheck rfl)) ?_
      refine k_rd rfl rfl (RS.of rfl rfl (x_fieldAddr Try.underlying53 rfl rfl ty29 (by decide) rfl)) ?_
      refine k_rd rfl rfl (RS.of rfl rfl (x_load Try.underlying29 rfl rfl (H.cellL 5 rfl rfl))) ?_
      refine k_rd rfl rfl (RS.of rfl rfl (x_lenSlice Try.underlying29 rfl rfl)) ?_
      refine k_no rfl rfl rfl (s_mapUpdate TS Try.underlying51 6 rfl rfl rfl (by conv => lhs; whnf) H fun w H => ⟨⟨trivial, ⟨trivial, ⟨trivial, ⟨trivial, ⟨trivial, ⟨trivial, ⟨trivial, ⟨trivial, ⟨trivial, ⟨trivial, trivial⟩⟩⟩⟩⟩⟩⟩⟩⟩⟩, ?_⟩)
      show _
      refine WC.draw mixed [6, 7, 10] [[], [], [1], [1, 2], [1, 2, 3], [], [5], [1, 2, 3, 4, 5, 6], [0, 1, 2, 3, 4, 5, 6, 7], [0, 1, 2, 3, 4, 5, 6, 7, 8], [0, 1, 2, 3, 4, 5, 6, 7, 8, 9]] [0, 1, 2, 3, 4, 5, 6, 7, 8, 9, 10] (by kernel_rfl) ?_
      have H := H.drew
      refine k_rd rfl rfl (RS.of rfl rfl (x_load Try.underlying25 rfl h2' (H.cellL 0 rfl rfl))) ?_
      refine k_rd rfl rfl (RS.of rfl rfl (x_load Try.underlying25 rfl h2' (H.cellL 0 rfl rfl))) ?_
      refine k_rd rfl rfl (RS.of rfl rfl (x_nilCheck rfl)) ?_
      refine k_rd rfl rfl (RS.of rfl rfl (x_fieldAddr Try.underlying53 rfl rfl ty29 (by decide) rfl)) ?_
      refine k_rd rfl rfl (RS.of rfl rfl (x_load Try.underlying29 rfl rfl (H.cellL 5 rfl rfl))) ?_
      refine k_rd rfl rfl (RS.of rfl rfl (x_move (by conv => lhs; whnf))) ?_
      refine k_st rfl rfl rfl (s_build1 Try.underlying29 ty9 rfl (by conv => lhs; whnf) rfl H fun b54 w H => ⟨⟨trivial, ⟨RS.of rfl rfl (x_load Try.underlying29 rfl rfl (H.cellL 6 rfl rfl)), ⟨RS.of rfl rfl (x_fieldAddr Try.underlying53 rfl rfl ty29 (by decide) rfl), ⟨RS.of rfl rfl (x_nilCheck rfl), ⟨RS.of rfl rfl (x_load Try.underlying25 rfl h2' (H.cellL 1 rfl rfl)), ⟨RS.of rfl rfl (x_load Try.underlying25 rfl h2' (H.cellL 1 rfl rfl)), trivial⟩⟩⟩⟩⟩⟩, ?_⟩)
      refine k_st rfl rfl rfl (s_append Try.underlying29 ty9 rfl (by decide) (by decide) rfl 8 rfl rfl rfl (H.sl 0 rfl) (by simp [Value.oneCell']) (by omega) H fun v55 w H => ⟨⟨trivial, ⟨trivial, ⟨trivial, ⟨trivial, ⟨trivial, ⟨RS.of rfl rfl (x_load Try.underlying25 rfl h2' (H.cellL 1 rfl rfl)), trivial⟩⟩⟩⟩⟩⟩, ?_⟩)
      obtain ⟨a55, c55, rfl⟩ := (H.sl 8 rfl).shape
      refine k_rd rfl rfl (RS.of rfl rfl (x_nilCheck rfl)) ?_
      refine k_rd rfl rfl (RS.of rfl rfl (x_fieldAddr Try.underlying53 rfl rfl ty29 (by decide) rfl)) ?_
      refine k_no rfl rfl rfl (s_st 6 rfl ty29 rfl (by conv => lhs; whnf) rfl rfl H fun w H => ⟨⟨trivial, ⟨trivial, ⟨trivial, ⟨trivial, ⟨trivial, ⟨trivial, ⟨trivial, ⟨trivial, trivial⟩⟩⟩⟩⟩⟩⟩⟩, ?_⟩)
      show _
      refine WC.region ?_
      refine l_rd rfl rfl (x_add h34 rfl (by omega) (by omega)) ?_
      refine l_rd rfl rfl (x_move (by conv => lhs; whnf)) ?_
      refine WL.nil ?_
      refine WC.again (⟨k + 1, _, by omega, rfl, h33, h32, h1, h2', h4, h5, rfl, by rw [hs1, ← ents_succ hny, hl1, List.map_append]; exact H.drop⟩) (by show _ - _ < _ - _; rw [h34]; show (news ts texts).length - ((k : Int) + 1).toNat < (news ts texts).length - (k : Int).toNat; omega)
    ·
      refine WL.nil ?_
      refine WC.seq ?_
      refine WC.cond0 rfl ?_
      refine WC.exit ?_
      refine WC.seq ?_
      refine WC.seq ?_
      have hk2 : k = (news ts texts).length := by omega
      subst hk2
      rw [List.take_length, ← List.length_append, ← addL_news] at H
      obtain ⟨av3, cv3, rfl⟩ := (H.sl 7 rfl).shape
      have H := Hd.nil H 3 1
      have H := Hd.arrT [_, _, _, _, _, _, _, _, _, _, _] [0, 1, 2, 3, 6, 7, 8, 9, 10] (by decide) rfl H
      have hr0 := hT _ _ (H.pick 8 rfl)
      have hle := hr0.le
      refine WC.region ?_
      refine l_rd rfl rfl (x_move h1) ?_
      refine l_rd rfl rfl (x_lenSlice Try.underlying29 rfl rfl) ?_
      refine l_rd rfl rfl (x_move ev_c) ?_
      refine WL.nil ?_
      refine WC.block ?_
      refine WC.loop (fun ρ ds w => ∃ (k : Nat) (ov : Value), k ≤ texts.length ∧ ρ 61 = I k ∧ ρ 60 = I texts.length ∧ ρ 59 = .slice a texts.length c ∧ ρ 2 = .pointer (some ⟨b2, 0, none⟩) ∧ ρ 4 = .pointer (some ⟨b4, 0, none⟩) ∧ ρ 5 = .pointer (some ⟨b5, 0, none⟩) ∧ ds = [m] ∧ Hd s w (Sl ov 3 1 k ((texts.take k).map fun t => I (fIdx (addL ts texts) t)) :: pt b2 (.cells #[.pointer (some ⟨B, 0, none⟩)] 25 (0, 0)) :: pt b4 (.cells #[ov] 31 (0, 0)) :: pt b5 (.cells #[I 0] 32 (0, 0)) :: pt B (.cells #[.map (some M), .slice av3 (addL ts texts).length cv3] 53 (0, 0)) :: Mp TS M (ents (addL ts texts)) :: Sl (.slice av3 (addL ts texts).length cv3) 9 1 (addL ts texts).length ((addL ts texts).map S) :: pt m (.deferred (some [])) :: T :: L)) (fun ρ w => texts.length - (match ρ 61 with | .int _ k => k.toNat | _ => 0)) (⟨0, _, Nat.zero_le _, rfl, rfl, rfl, h2', h4, h5, rfl, H⟩) ?_
      repeat clear H
      rintro ρ ds w ⟨k, ov, hk, h61, h60, h59, h2', h4, h5, rfl, H⟩
      refine WC.seq ?_
      refine WC.region ?_
      refine l_rdD rfl rfl (x_lss h61 h60) (fun h62 => ?_) (fun h62 => ?_)
      ·
        refine WL.nil ?_
        refine WC.seq ?_
        refine WC.cond1 rfl ?_
        refine WC.skip ?_
        refine WC.seq ?_
        refine WC.block ?_
        refine WC.seq ?_
        obtain ⟨y, hyk⟩ := lt_get (show k < texts.length by omega)
        obtain ⟨b1, o1, rfl, hc1⟩ := (hT _ _ (H.pick 8 rfl)).el hyk
        refine WC.region ?_
        refine l_rd rfl rfl (x_indexAddr Try.underlying29 ty9 h59 h61 (by omega) (by omega)) ?_
        refine l_rd rfl rfl (x_load Try.underlying9 rfl rfl hc1) ?_
        refine l_rd rfl rfl (x_assign (by conv => lhs; whnf)) ?_
        refine WL.nil ?_
        obtain ⟨es, cl, hm, hv⟩ := Mp.obj TS H 5 rfl
        obtain ⟨ao, co, rfl⟩ := (H.sl 0 rfl).shape
        refine WC.draw mixed [7, 8, 9] [[], [], [1], [1, 2], [1, 2, 3], [], [1, 2, 3, 4, 5], [1, 2, 3, 4, 5, 6], [0, 1, 2, 3, 4, 5, 6, 7], [0, 1, 2, 3, 4, 5, 6, 7, 8]] [0, 1, 2, 3, 4, 5, 6, 7, 8, 9] (by kernel_rfl) ?_
        have H := H.drew
        refine k_rd rfl rfl (RS.of rfl rfl (x_load Try.underlying31 rfl h4 (H.cellL 2 rfl rfl))) ?_
        refine k_rd rfl rfl (RS.of rfl rfl (x_load Try.underlying25 rfl h2' (H.cellL 1 rfl rfl))) ?_
        refine k_rd rfl rfl (RS.of rfl rfl (x_nilCheck rfl)) ?_
        refine k_rd rfl rfl (RS.of rfl rfl (x_fieldAddr Try.underlying53 rfl rfl ty51 (by decide) rfl)) ?_
        refine k_rd rfl rfl (RS.of rfl rfl (x_load Try.underlying51 rfl rfl (H.cellL 4 rfl rfl))) ?_
        refine k_rd rfl rfl (RS.of rfl rfl (x_move (by conv => lhs; whnf))) ?_
        refine k_rd rfl rfl (RS.of rfl rfl (x_look TS Try.underlying51 ty3 rfl rfl hm hv ((alook_ents y _).trans (if_pos (mem_addL (List.mem_of_getElem? hyk)))))) ?_
        refine k_st rfl rfl rfl (s_build1 Try.underlying31 ty3 rfl (by conv => lhs; whnf) rfl H fun b72 w H => ⟨⟨trivial, ⟨trivial, ⟨trivial, ⟨trivial, ⟨trivial, ⟨trivial, ⟨RS.of rfl rfl (x_load Try.underlying31 rfl h4 (H.cellL 3 rfl rfl)), trivial⟩⟩⟩⟩⟩⟩⟩, ?_⟩)
        refine k_st rfl rfl rfl (s_append Try.underlying31 ty3 rfl (by decide) (by decide) rfl 1 rfl rfl rfl (H.sl 0 rfl) (by simp [Value.oneCell']) (by omega) H fun v73 w H => ⟨⟨trivial, ⟨trivial, ⟨trivial, ⟨trivial, ⟨trivial, ⟨trivial, ⟨trivial, trivial⟩⟩⟩⟩⟩⟩⟩, ?_⟩)
        obtain ⟨a73, c73, rfl⟩ := (H.sl 1 rfl).shape
        refine k_no rfl rfl rfl (s_st 3 rfl ty31 h4 (by conv => lhs; whnf) rfl rfl H fun w H => ⟨⟨trivial, ⟨trivial, ⟨trivial, ⟨trivial, ⟨trivial, ⟨trivial, ⟨trivial, trivial⟩⟩⟩⟩⟩⟩⟩, ?_⟩)
        show _
        refine WC.region ?_
        refine l_rd rfl rfl (x_add h61 rfl (by omega) (by omega)) ?_
        refine l_rd rfl rfl (x_move (by conv => lhs; whnf)) ?_
        refine WL.nil ?_
        refine WC.again (⟨k + 1, _, by omega, rfl, h60, h59, h2', h4, h5, rfl, by rw [List.take_succ_eq_append_getElem (by omega), List.map_append, (List.getElem?_eq_some_iff.1 hyk).2]; exact H.drop⟩) (by show _ - _ < _ - _; rw [h61]; show texts.length - ((k : Int) + 1).toNat < texts.length - (k : Int).toNat; omega)
      ·
        refine WL.nil ?_
        refine WC.seq ?_
        refine WC.cond0 rfl ?_
        refine WC.exit ?_
        refine WC.seq ?_
        have hk3 : k = texts.length := by omega
        subst hk3
        rw [List.take_length] at H
        obtain ⟨ao, co, rfl⟩ := (H.sl 0 rfl).shape
        refine WC.region ?_
        refine l_rd rfl rfl (x_load Try.underlying31 rfl h4 (H.cellL 2 rfl rfl)) ?_
        refine l_no (s_st 2 rfl ty31 h4 (by conv => lhs; whnf) rfl rfl H fun w H => ?_)
        refine l_no (s_st 3 rfl ty32 h5 ev_c rfl rfl H fun w H => ?_)
        refine WL.nil ?_
        refine WC.ret ?_
        refine atRet ?_
        refine RetM.mark H (i := 7) rfl (fun w H => ?_)
        exact RetM.cell2 rfl h4 h5 Try.underlying31 rfl Try.underlying32 rfl (H.cellL 2 rfl rfl) (H.cellL 3 rfl rfl) (⟨_, rfl, by
              have H := Hd.arrT [_, _, _, _, _, _, _, _, _] [4, 5, 6, 0, 8] (by decide) rfl H
              exact (BookP.mk (addL_nodup hn texts) H).swp⟩)
  ·
    intro w m c pre x rest hxs H
    obtain ⟨hh, _, hF⟩ := H.fact_at 0 rfl
    obtain ⟨_, _, _, _, _, hF⟩ := hF
    exact hF.elim

end Go.Proofs.Ytpoahelomhjnaaa
