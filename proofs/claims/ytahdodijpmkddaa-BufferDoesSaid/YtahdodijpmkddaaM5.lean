/-
  What functions of this seat do: contracts, proved by walks, and the plain laws that they need; each with the conditions that it names.
-/
import Derived.Test.YtahdodijpmkddaaM4
import Derived.Test.YtahdodijpmkddaaE4
set_option linter.unusedVariables false
set_option linter.unusedSimpArgs false
namespace Go.Proofs.Ytahdodijpmkddaa
open Go Go.RowKit KE Go.Proofs

def lenV (p : Int × Value) : Nat := match p.2 with | .slice _ n _ => n | _ => 0
theorem len_sum {g : Sub} {V : List Eg} {hs : List It} {tb : Tb} (hI : BufI g V hs tb) (hsh : ∀ q ∈ tb, ∃ a c, q.2.1 = .slice a q.2.2.length c) : ((mlo tb).map lenV).sum = V.length := by
  rw [← (byK_all hI.nd hI.cov).length_eq]
  have : ∀ (l : Tb), (∀ p ∈ l, p ∈ tb) → ((mlo l).map lenV).sum = (byK V (keys l)).length := by
    intro l
    induction l with
    | nil => intro _; rfl
    | cons p l ih =>
      intro hl
      have h1 := ih fun q hq => hl q (List.mem_cons_of_mem _ hq)
      obtain ⟨a, c, h2⟩ := hsh p (hl p List.mem_cons_self)
      have h3 := (hI.ent p (hl p List.mem_cons_self)).2.len
      have h4 : byK V (keys (p :: l)) = V.filter (tm p.1) ++ byK V (keys l) := rfl
      have h5 : lenV (p.1, p.2.1) = p.2.2.length := by rw [h2]; rfl
      rw [h4, List.length_append, ← h1]
      show (lenV (p.1, p.2.1) :: (mlo l).map lenV).sum = _
      rw [List.sum_cons, h5, h3]
  exact this tb fun _ h => h
theorem c20 {s : Sy} {L : List Hp} {g : Sub} {B : Nat} {V : List Eg} (w : World) (H : Hd s w (BufP g B V :: fz g :: L)) : CC Try.prog 20 [.pointer (some ⟨B, 0, none⟩)].toArray w (fun r w' => r = I V.length ∧ Hd s w' (BufP g B V :: fz g :: L)) := by
  obtain ⟨h, M, hs, tb, hI, H⟩ := BufP.opn H
  have hlV := hI.len
  have hshq : ∀ q ∈ tb, ∃ a c, q.2.1 = .slice a q.2.2.length c := fun q hq => (ot_rdi H 3 rfl q hq).shape
  have hsum0 := len_sum hI hshq
  have hsh0 : ∀ p ∈ mlo tb, ∃ a n c, p.2 = .slice a n c := fun p hp => by
    obtain ⟨q, hq, rfl⟩ := List.mem_map.1 hp
    obtain ⟨a, c, h⟩ := hshq q hq
    exact ⟨a, _, c, h⟩
  refine CC.of (N := 22) Try.func20 rfl rfl rfl ?_
  refine WC.seq ?_
  refine WC.region ?_
  refine l_rd rfl rfl (x_assign ev_c) ?_
  refine WL.nil ?_
  refine WC.seq ?_
  refine WC.seq ?_
  refine WC.region ?_
  refine l_rd rfl rfl (x_move (by conv => lhs; whnf)) ?_
  refine l_st rfl (s_callL cal26 (c26 _ (H.obj 0 rfl)) ?_)
  rintro _ w ⟨rfl, e1⟩
  have H := H.ext e1
  refine l_rd rfl rfl (x_not rfl) ?_
  refine WL.nil ?_
  refine WC.cond0 rfl ?_
  refine WC.skip ?_
  refine WC.seq ?_
  refine WC.seq ?_
  refine WC.region ?_
  refine l_rd rfl rfl (x_move (by conv => lhs; whnf)) ?_
  refine l_rd rfl rfl (x_nilCheck rfl) ?_
  refine l_rd rfl rfl (x_fieldAddr Try.underlying56 rfl rfl ty54 (by decide) rfl) ?_
  refine l_rd rfl rfl (x_load Try.underlying54 rfl rfl (H.cellL 0 rfl rfl)) ?_
  refine l_st rfl (s_rangeM TI Try.underlying54 1 rfl rfl H (fun bi w H => ?_))
  refine WL.nil ?_
  refine WC.block ?_
  refine WC.loopN (I := fun n ρ w => ∃ (m : Nat) (rest : List (Int × Value)) (cur : Option (Int × Value)), n = rest.length ∧ m + (rest.map lenV).sum = V.length ∧ (∀ p ∈ rest, ∃ a n c, p.2 = .slice a n c) ∧ ρ 2 = I m ∧ ρ 12 = .pointer (some ⟨bi, 0, none⟩) ∧ Hd s w (MR TI M bi (mlo tb) cur rest :: pt B (.cells #[.pointer (some ⟨h, 0, none⟩), .map (some M)] 56 (0, 0)) :: HeapP h hs :: ot tb :: fz g :: L)) (n0 := _) (⟨0, mlo tb, none, rfl, by rw [Nat.zero_add]; exact hsum0, hsh0, rfl, rfl, H⟩) ?_
  repeat clear H
  rintro n ρ w ⟨m, rest, cur, hn, hsum, hsh, h2, h12, H⟩
  refine WC.seq ?_
  refine WC.region ?_
  refine l_st rfl (s_nextM TI 0 rfl h12 H (fun p A B2 w hsp H => ?_) (fun hnil => ?_))
  ·
    obtain ⟨kt, kv⟩ := p
    obtain ⟨ai, ni, ci, rfl⟩ := hsh (kt, kv) (by rw [hsp]; simp)
    have hsum2 := hsum
    rw [hsp] at hsum2
    simp only [List.map_append, List.map_cons, List.sum_append, List.sum_cons, lenV] at hsum2
    refine l_rd rfl rfl (x_extract rfl rfl) ?_
    refine WL.nil ?_
    refine WC.seq ?_
    refine WC.cond1 rfl ?_
    refine WC.skip ?_
    refine WC.block ?_
    refine WC.seq ?_
    refine WC.region ?_
    refine l_rd rfl rfl (x_entry TI H 0 rfl h12) ?_
    refine l_rd rfl rfl (x_extract rfl rfl) ?_
    refine l_rd rfl rfl (x_assign (by conv => lhs; whnf)) ?_
    refine WL.nil ?_
    refine WC.region ?_
    refine l_rd rfl rfl (x_move h2) ?_
    refine l_rd rfl rfl (x_move (by conv => lhs; whnf)) ?_
    refine l_rd rfl rfl (x_lenSlice Try.underlying28 rfl rfl) ?_
    refine l_rd rfl rfl (x_addN (a := m) (b := ni) rfl rfl (by omega)) ?_
    refine l_rd rfl rfl (x_assign (by conv => lhs; whnf)) ?_
    refine WL.nil ?_
    refine blockE_n ?_
    exact ⟨rfl, (A ++ B2).length, by rw [hn, hsp]; simp, m + ni, A ++ B2, _, rfl, by simp only [List.map_append, List.sum_append]; omega, fun p hp => hsh p (by rw [hsp]; rcases List.mem_append.1 hp with h | h <;> simp [h]), rfl, h12, H⟩
  ·
    refine l_rd rfl rfl (x_extract rfl rfl) ?_
    refine WL.nil ?_
    refine WC.seq ?_
    refine WC.cond0 rfl ?_
    refine WC.exit ?_
    refine WC.seq ?_
    refine WC.region ?_
    refine l_rd rfl rfl (x_move h2) ?_
    refine l_rd rfl rfl (x_assign (by conv => lhs; whnf)) ?_
    refine WL.nil ?_
    refine WC.ret ?_
    refine atRet ?_
    exact RetM.one rfl (by (conv => lhs; whnf); try rfl) (⟨by rw [hnil] at hsum; have h0 : m = V.length := hsum; rw [h0], BufP.mk hI (Hd.arrT [_, _, _, _, _] [1, 0, 2, 3, 4] (by decide) rfl (MR.map (Hd.arrT [_, _, _, _, _] [0, 1, 2, 3, 4] (by decide) rfl H)))⟩)

end Go.Proofs.Ytahdodijpmkddaa
set_option linter.unusedVariables false
set_option linter.unusedSimpArgs false
namespace Go.Proofs.Ytahdodijpmkddaa
open Go Go.RowKit KE Go.Proofs
theorem cal28 : Cal Try.prog 28 := ⟨_, Try.func28, rfl, by decide⟩

def bare (tb : Tb) : List (Int × List Ed) := tb.map fun p => (p.1, p.2.2)
theorem mlo_app (A B : Tb) : mlo (A ++ B) = mlo A ++ mlo B := List.map_append
theorem copy_perm {tb tb2 A B : Tb} {q : Int × Value × List Ed} {v : Value} (hP : (bare tb2 ++ bare (A ++ q :: B)).Perm (bare tb)) : (bare (tb2 ++ [(q.1, v, q.2.2)]) ++ bare (A ++ B)).Perm (bare tb) := by
  refine List.Perm.trans ?_ hP
  simp only [bare, List.map_append, List.map_cons, List.map_nil, List.append_assoc, List.cons_append, List.nil_append]
  exact List.Perm.append_left _ List.perm_middle.symm
theorem copy_end {tb tb2 tbr : Tb} (hP : (bare tb2 ++ bare tbr).Perm (bare tb)) (hnil : mlo tbr = []) : (bare tb2).Perm (bare tb) := by
  rw [List.map_eq_nil_iff.1 hnil] at hP
  simpa [bare] using hP
theorem bare_keys (tb : Tb) : keys tb = (bare tb).map (·.1) := by simp [bare]
theorem ot_rdm {s : Sy} {w : World} {tb : Tb} {L : List Hp} (H : Hd s w L) (hm : ot tb ∈ L) : ∀ q ∈ tb, RdS w q.2.1 5 edC q.2.2 := by
  obtain ⟨i, hi⟩ := List.getElem?_of_mem hm
  exact ot_rdi H i hi
theorem copy_aset {g : Sub} {V : List Eg} {hs : List It} {tb tb2 A B : Tb} {q : Int × Value × List Ed} {v : Value} (hI : BufI g V hs tb) (hP : (bare tb2 ++ bare (A ++ q :: B)).Perm (bare tb)) : aset q.1 v (mlo tb2) = mlo (tb2 ++ [(q.1, v, q.2.2)]) := by
  have hk : (keys tb2 ++ keys (A ++ q :: B)).Nodup := by
    have h1 := (hP.map (·.1)).nodup_iff.2 (by rw [← bare_keys]; exact hI.nd)
    rwa [List.map_append, ← bare_keys, ← bare_keys] at h1
  have hn : q.1 ∉ keys tb2 := fun h => (List.nodup_append.1 hk).2.2 _ h q.1 (by simp) rfl
  rcases tb_look q.1 tb2 with ⟨h1, h2, h3⟩ | ⟨A, v2, es, B, h1, h2, h3, h4, h5⟩
  · rw [h3]; simp
  · exact absurd (by rw [h1]; simp) hn
theorem BufI.copy {g : Sub} {V : List Eg} {hs : List It} {tb tb2 : Tb} (hI : BufI g V hs tb) (hP : (bare tb2).Perm (bare tb)) : BufI g V hs tb2 := by
  have hk : (keys tb2).Perm (keys tb) := by rw [bare_keys, bare_keys]; exact hP.map _
  refine ⟨hI.heap, hI.hk.trans hk.symm, hk.nodup_iff.2 hI.nd, fun p hp => ?_, fun x hx => hk.mem_iff.2 (hI.cov x hx), hI.srt, hI.len, hI.pl, hI.tmb⟩
  have h1 : (p.1, p.2.2) ∈ bare tb := hP.mem_iff.1 (List.mem_map_of_mem (f := fun p : Int × Value × List Ed => (p.1, p.2.2)) hp)
  obtain ⟨q, hq, he⟩ := List.mem_map.1 h1
  simp only [Prod.mk.injEq] at he
  have := hI.ent q hq
  rwa [he.1, he.2] at this
theorem c12 {s : Sy} {L : List Hp} {g : Sub} {B : Nat} {V : List Eg} (w : World) (H : Hd s w (BufP g B V :: fz g :: L)) : CC Try.prog 12 [.pointer (some ⟨B, 0, none⟩)].toArray w (fun r w' => ∃ B2 : Nat, r = .pointer (some ⟨B2, 0, none⟩) ∧ Hd s w' (BufP g B2 V :: BufP g B V :: fz g :: L)) := by
  obtain ⟨h, M, hs, tb, hI, H⟩ := BufP.opn H
  refine CC.of (N := 37) Try.func12 rfl rfl rfl ?_
  refine WC.seq ?_
  refine WC.region ?_
  refine l_rd rfl rfl (x_assign ev_c) ?_
  refine WL.nil ?_
  refine WC.seq ?_
  refine WC.seq ?_
  refine WC.region ?_
  refine l_rd rfl rfl (x_move (by conv => lhs; whnf)) ?_
  refine l_st rfl (s_callL cal26 (c26 _ (H.obj 0 rfl)) ?_)
  rintro _ w ⟨rfl, e1⟩
  have H := H.ext e1
  refine l_rd rfl rfl (x_not rfl) ?_
  refine WL.nil ?_
  refine WC.cond0 rfl ?_
  refine WC.skip ?_
  refine WC.seq ?_
  refine WC.region ?_
  refine l_rd rfl rfl (x_move (by conv => lhs; whnf)) ?_
  refine l_rd rfl rfl (x_nilCheck rfl) ?_
  refine l_rd rfl rfl (x_fieldAddr Try.underlying56 rfl rfl ty53 (by decide) rfl) ?_
  refine l_rd rfl rfl (x_fieldAddr Try.underlying53 rfl rfl ty50 (by decide) rfl) ?_
  refine l_rd rfl rfl (x_load Try.underlying50 rfl rfl (H.cellL 0 rfl rfl)) ?_
  refine l_st rfl (s_callL cal27 (c27 _ (H.pick 2 rfl) (by have := hI.hlen; omega)) ?_)
  rintro _ w ⟨h2, rfl, H⟩
  refine l_rd rfl rfl (x_buildL (pl := [(0, 1)]) (cells := [.pointer (some ⟨h2, 0, none⟩)]) Try.underlying53 ty53 (by kernel_rfl) rfl) ?_
  refine l_st rfl (s_makeMap H fun m16 w H => ?_)
  refine l_rd rfl rfl (x_buildL (pl := [(0, 1), (1, 1)]) (cells := [.pointer (some ⟨h2, 0, none⟩), .map (some m16)]) Try.underlying56 ty56 (by kernel_rfl) rfl) ?_
  refine l_st rfl (s_box (by conv => lhs; whnf) H fun b18 w H => ?_)
  refine l_rd rfl rfl (x_assign (by conv => lhs; whnf)) ?_
  refine WL.nil ?_
  refine WC.seq ?_
  refine WC.seq ?_
  have H := Hd.pure trivial (((H.swp).weak (Mp.made TI)).swp)
  have H : Hd s w (ot [] :: pt b18 (.cells #[.pointer (some ⟨h2, 0, none⟩), .map (some m16)] 56 (0, 0)) :: Mp TI m16 (mlo []) :: _) := H
  refine WC.region ?_
  refine l_rd rfl rfl (x_move (by conv => lhs; whnf)) ?_
  refine l_rd rfl rfl (x_nilCheck rfl) ?_
  refine l_rd rfl rfl (x_fieldAddr Try.underlying56 rfl rfl ty54 (by decide) rfl) ?_
  refine l_rd rfl rfl (x_load Try.underlying54 rfl rfl (H.cellL 5 rfl rfl)) ?_
  refine l_st rfl (s_rangeM TI Try.underlying54 6 rfl rfl H (fun bi w H => ?_))
  refine WL.nil ?_
  refine WC.block ?_
  refine WC.loopN (I := fun n ρ w => ∃ (tb2 tbr : Tb) (cur : Option (Int × Value)), n = tbr.length ∧ (bare tb2 ++ bare tbr).Perm (bare tb) ∧ (∀ q ∈ tbr, q ∈ tb) ∧ ρ 3 = .pointer (some ⟨b18, 0, none⟩) ∧ ρ 23 = .pointer (some ⟨bi, 0, none⟩) ∧ Hd s w (MR TI M bi (mlo tb) cur (mlo tbr) :: ot tb2 :: pt b18 (.cells #[.pointer (some ⟨h2, 0, none⟩), .map (some m16)] 56 (0, 0)) :: Mp TI m16 (mlo tb2) :: HeapP h2 hs :: HeapP h hs :: pt B (.cells #[.pointer (some ⟨h, 0, none⟩), .map (some M)] 56 (0, 0)) :: ot tb :: fz g :: L)) (n0 := _) (⟨[], tb, none, rfl, List.Perm.refl _, fun _ h => h, rfl, rfl, H⟩) ?_
  repeat clear H
  rintro n ρ w ⟨tb2, tbr, cur, hn, hP, hsub, h3, h23, H⟩
  refine WC.seq ?_
  refine WC.region ?_
  refine l_st rfl (s_nextM TI 0 rfl h23 H (fun p A B2 w hsp H => ?_) (fun hnil => ?_))
  ·
    obtain ⟨A0, C0, he0, rfl, hC⟩ := List.map_eq_append_iff.1 hsp
    obtain ⟨q, B0, rfl, rfl, rfl⟩ := List.map_eq_cons_iff.1 hC
    subst he0
    have hqt : q ∈ tb := hsub q (by simp)
    have hql : q.2.2.length ≤ 100000 := by rw [(hI.ent q hqt).2.len]; have := List.length_filter_le (tm q.1) V; have := hI.len; omega
    refine l_rd rfl rfl (x_extract rfl rfl) ?_
    refine WL.nil ?_
    refine WC.seq ?_
    refine WC.cond1 rfl ?_
    refine WC.skip ?_
    refine WC.block ?_
    refine WC.seq ?_
    refine WC.region ?_
    refine l_rd rfl rfl (x_entry TI H 0 rfl h23) ?_
    refine l_rd rfl rfl (x_extract rfl rfl) ?_
    refine l_rd rfl rfl (x_extract rfl rfl) ?_
    refine l_rd rfl rfl (x_assign (by conv => lhs; whnf)) ?_
    refine l_rd rfl rfl (x_assign (by conv => lhs; whnf)) ?_
    refine WL.nil ?_
    refine WC.draw mixed [6, 7] [[], [0], [0, 1], [0, 1, 2], [], [], [5], [0, 1, 2, 3, 4, 5, 6]] [0, 1, 2, 3, 4, 5, 6, 7] (by kernel_rfl) ?_
    have H := H.drew
    refine k_rd rfl rfl (RS.of rfl rfl (x_move h3)) ?_
    refine k_rd rfl rfl (RS.of rfl rfl (x_nilCheck rfl)) ?_
    refine k_rd rfl rfl (RS.of rfl rfl (x_fieldAddr Try.underlying56 rfl rfl ty54 (by decide) rfl)) ?_
    refine k_rd rfl rfl (RS.of rfl rfl (x_load Try.underlying54 rfl rfl (H.cellL 2 rfl rfl))) ?_
    refine k_rd rfl rfl (RS.of rfl rfl (x_move (by conv => lhs; whnf))) ?_
    refine k_rd rfl rfl (RS.of rfl rfl (x_move (by conv => lhs; whnf))) ?_
    refine k_st rfl rfl rfl (s_callL cal28 (c28 (es := q.2.2) _ H (fun w A h => ot_rdm h (List.mem_append_right _ ((List.mem_cons_of_mem _ (List.mem_cons_of_mem _ (List.mem_cons_of_mem _ (List.mem_cons_of_mem _ (List.mem_cons_of_mem _ (List.mem_cons_of_mem _ (List.mem_cons_of_mem _ List.mem_cons_self))))))))) q hqt) (hI.ent q hqt).2.one hql) ?_)
    rintro v2 w H
    refine ⟨⟨trivial, ⟨RS.of rfl rfl (x_move (by (conv => lhs; whnf); try rfl)), ⟨RS.of rfl rfl (x_load Try.underlying54 rfl rfl (H.cellL 3 rfl rfl)), ⟨RS.of rfl rfl (x_fieldAddr Try.underlying56 rfl rfl ty54 (by decide) rfl), ⟨RS.of rfl rfl (x_nilCheck rfl), ⟨RS.of rfl rfl (x_move h3), trivial⟩⟩⟩⟩⟩⟩, ?_⟩
    refine k_no rfl rfl rfl (s_mapUpdate TI Try.underlying54 4 rfl rfl rfl (by conv => lhs; whnf) H fun w H => ⟨⟨trivial, ⟨trivial, ⟨trivial, ⟨trivial, ⟨trivial, ⟨trivial, trivial⟩⟩⟩⟩⟩⟩, ?_⟩)
    show _
    refine blockE_n ?_
    exact ⟨rfl, (A0 ++ B0).length, by rw [hn]; simp, tb2 ++ [(q.1, v2, q.2.2)], A0 ++ B0, _, rfl, copy_perm hP, fun p hp => hsub p (by rcases List.mem_append.1 hp with h | h <;> simp [h]), h3, h23, by rw [ot_mid, List.append_nil, ← copy_aset hI hP, mlo_app]; exact Hd.starAt [_] (Hd.arrT [_, _, _, _, _, _, _, _, _, _] [1, 0, 2, 3, 4, 5, 6, 7, 8, 9] (by decide) rfl H)⟩
  ·
    refine l_rd rfl rfl (x_extract rfl rfl) ?_
    refine WL.nil ?_
    refine WC.seq ?_
    refine WC.cond0 rfl ?_
    refine WC.exit ?_
    refine WC.seq ?_
    refine WC.region ?_
    refine l_rd rfl rfl (x_move h3) ?_
    refine l_rd rfl rfl (x_assign (by conv => lhs; whnf)) ?_
    refine WL.nil ?_
    refine WC.ret ?_
    refine atRet ?_
    exact RetM.one rfl (by (conv => lhs; whnf); try rfl) (⟨b18, rfl, by have hP := copy_end hP hnil; have H := MR.map (Hd.arrT [_, _, _, _, _, _, _, _, _] [0, 2, 3, 4, 1, 5, 6, 7, 8] (by decide) rfl H); exact (BufP.mk hI (Hd.arrT [_, _, _, _, _, _] [3, 1, 2, 4, 0, 5] (by decide) rfl (BufP.mk (hI.copy hP) (Hd.arrT [_, _, _, _, _, _, _, _, _] [1, 2, 3, 4, 0, 5, 6, 7, 8] (by decide) rfl H)))).swp⟩)

end Go.Proofs.Ytahdodijpmkddaa
set_option linter.unusedVariables false
set_option linter.unusedSimpArgs false
namespace Go.Proofs.Ytahdodijpmkddaa
open Go Go.RowKit KE Go.Proofs
theorem cal45 : Cal Try.prog 45 := ⟨_, Try.func45, rfl, by decide⟩

def fT : List Eg → Int
  | [] => 0
  | x :: _ => x.time
theorem BufI.fst {g : Sub} {V : List Eg} {hs : List It} {tb : Tb} (hI : BufI g V hs tb) : (at_ hs 0).1 = fT V ∧ (hs ≠ [] ↔ V ≠ []) := by
  cases V with
  | nil => obtain ⟨h1, h2⟩ := hI.empty; subst h1; exact ⟨rfl, by simp⟩
  | cons x V => obtain ⟨h1, h2⟩ := hI.first; exact ⟨h2, by simp [h1]⟩
theorem BufP.obj {s : Sy} {w : World} {L : List Hp} {g : Sub} {B : Nat} {V : List Eg} (H : Hd s w (BufP g B V :: L)) : ∃ h M, w.heap[B]? = some (.cells #[.pointer (some ⟨h, 0, none⟩), .map (some M)] 56 (0, 0)) := by
  obtain ⟨h, M, hs, tb, hI, H⟩ := BufP.opn H
  exact ⟨h, M, H.obj 0 rfl⟩
/-- an edge that is told, with its props -/
def yE (x : Eg) (vs : List Value) : Hp := fun m => ∃ e : Ed, (vs = [.agg (edC e).toArray] ∧ kk e = kE x) ∧ Sl e.pv 86 4 x.props.length (x.props.flatMap prC) m
theorem yE_mk {e : Ed} {x : Eg} (h : kk e = kE x) : ∀ m, Sl e.pv 86 4 x.props.length (x.props.flatMap prC) m → yE x [.agg (edC e).toArray] m := fun m hm => ⟨e, ⟨rfl, h⟩, hm⟩
theorem it43 {s : Sy} {g : Sub} {B bx1 bx2 : Nat} {time : Int} {V : List Eg} : IT Try.prog s 43 [.pointer (some ⟨bx1, 0, none⟩), .pointer (some ⟨bx2, 0, none⟩)] yE (V.takeWhile fun x => decide (x.time ≤ time)) (star (pt bx1 (.cells #[.pointer (some ⟨B, 0, none⟩)] 25 (0, 0))) (star (pt bx2 (.cells #[I time] 3 (0, 0))) (star (BufP g B V) (fz g)))) (fun pre => star (pt bx1 (.cells #[.pointer (some ⟨B, 0, none⟩)] 25 (0, 0))) (star (pt bx2 (.cells #[I time] 3 (0, 0))) (star (BufP g B (V.drop pre.length)) (fz g)))) := by
  intro l J X w L hy H
  have H := Hd.unstarAt [_, _, _] (Hd.unstarAt [_, _] (Hd.unstarAt [_] H))
  refine CC.of (N := 37) Try.func43 rfl rfl rfl ?_
  refine WC.scope ?_
  refine WC.seq ?_
  refine WC.seq ?_
  obtain ⟨hx0, M0, hB0⟩ := BufP.obj (H.pick 3 rfl)
  refine WC.region ?_
  refine l_rd rfl rfl (x_load Try.underlying25 rfl rfl (H.cellL 1 rfl rfl)) ?_
  refine l_st rfl (s_callL cal26 (c26 _ hB0) ?_)
  rintro _ w ⟨rfl, e1⟩
  have H := H.ext e1
  refine l_rd rfl rfl (x_not rfl) ?_
  refine WL.nil ?_
  refine WC.cond0 rfl ?_
  refine WC.skip ?_
  refine WC.seq ?_
  refine WC.label ?_
  refine WC.seq ?_
  obtain ⟨h, M, hs, tb, hI, H⟩ := BufP.opn (Hd.arrT [_, _, _, _, _] [3, 0, 1, 2, 4] (by decide) rfl H)
  refine WC.region ?_
  refine l_rd rfl rfl (x_load Try.underlying25 rfl rfl (H.cellL 5 rfl rfl)) ?_
  refine l_rd rfl rfl (x_nilCheck rfl) ?_
  refine l_rd rfl rfl (x_fieldAddr Try.underlying56 rfl rfl ty53 (by decide) rfl) ?_
  refine l_rd rfl rfl (x_loadF (vs := [_]) Try.underlying53 rfl ty53 rfl rfl (H.cellsL 0 rfl rfl)) ?_
  refine l_st rfl (s_callL cal44 (c44 _ (HeapP.rd H 2 rfl)) ?_)
  rintro r w ⟨hr1, e1⟩
  have H := H.ext e1
  obtain rfl : r = .tuple #[I (fT V), .bool (decide (V ≠ []))] := hr1.trans (by rw [hI.fst.1, decide_eq_decide.2 hI.fst.2])
  have H := BufP.mk hI (Hd.arrT [_, _, _, _, _, _, _, _] [0, 1, 2, 3, 4, 5, 6, 7] (by decide) rfl H)
  refine l_rd rfl rfl (x_move (by conv => lhs; whnf)) ?_
  refine l_rd rfl rfl (x_extract rfl rfl) ?_
  refine l_rd rfl rfl (x_extract rfl rfl) ?_
  refine l_rd rfl rfl (x_assign (by conv => lhs; whnf)) ?_
  refine l_rd rfl rfl (x_assign (by conv => lhs; whnf)) ?_
  refine WL.nil ?_
  refine WC.block ?_
  refine WC.loopN (I := fun n ρ w => ∃ (pre V2 : List Eg), n = V2.length ∧ V = pre ++ V2 ∧ V.takeWhile (fun x => decide (x.time ≤ time)) = pre ++ V2.takeWhile (fun x => decide (x.time ≤ time)) ∧ ρ 4 = I (fT V2) ∧ ρ 5 = .bool (decide (V2 ≠ [])) ∧ ρ 0 = .func (.yield l) #[] #[] ∧ ρ 1 = .pointer (some ⟨bx1, 0, none⟩) ∧ ρ 2 = .pointer (some ⟨bx2, 0, none⟩) ∧ Hd s w (J pre :: pt bx1 (.cells #[.pointer (some ⟨B, 0, none⟩)] 25 (0, 0)) :: pt bx2 (.cells #[I time] 3 (0, 0)) :: BufP g B V2 :: fz g :: L)) (n0 := _) (⟨[], V, rfl, rfl, rfl, rfl, rfl, rfl, rfl, rfl, Hd.arrT [_, _, _, _, _] [1, 2, 3, 0, 4] (by decide) rfl H⟩) ?_
  repeat clear H
  rintro n ρ w ⟨pre, V2, hn, hV, hz, h4, h5, h0, h1, h2, H⟩
  refine WC.seq ?_
  refine WC.seq ?_
  rcases V2 with _ | ⟨y, V3⟩
  ·
    have h5 : ρ 5 = .bool false := h5.trans (by simp)
    refine WC.region ?_
    refine l_rd rfl rfl (x_move h5) ?_
    refine l_rd rfl rfl (x_move (by conv => lhs; whnf)) ?_
    refine l_gn (wantN rfl rfl rfl) rfl ?_
    refine l_gn (wantN rfl rfl rfl) rfl ?_
    refine l_gn (wantN rfl rfl rfl) rfl ?_
    refine l_rd rfl rfl (x_pick0 rfl ev_c) ?_
    refine WL.nil ?_
    refine WC.cond0 rfl ?_
    refine WC.exit ?_
    refine atEnd ?_
    have hz2 : V.takeWhile (fun x => decide (x.time ≤ time)) = pre := by rw [hz, List.takeWhile_nil, List.append_nil]
    exact RetM.none' rfl (.inl (by rw [hz2]; dsimp only; rw [show V.drop pre.length = [] from by rw [hV]; exact List.drop_left]; exact Hd.starAt [_] (Hd.starAt [_, _] (Hd.starAt [_, _, _] (Hd.arrT [_, _, _, _, _] [0, 1, 2, 3, 4] (by decide) rfl H)))))
  ·
    have h5 : ρ 5 = .bool true := h5.trans (by simp)
    refine WC.region ?_
    refine l_rd rfl rfl (x_move h5) ?_
    refine l_rd rfl rfl (x_move (by conv => lhs; whnf)) ?_
    refine l_gy (wantY rfl rfl rfl) rfl rfl (x_move h4) ?_
    refine l_gy (wantY rfl rfl rfl) rfl rfl (x_load Try.underlying3 rfl h2 (H.cellL 2 rfl rfl)) ?_
    refine l_gyD (wantY rfl rfl rfl) rfl rfl (x_leq rfl rfl) (fun h21 => ?_) (fun h21 => ?_)
    ·
      have hzs : V.takeWhile (fun x => decide (x.time ≤ time)) = pre ++ y :: V3.takeWhile (fun x => decide (x.time ≤ time)) := by rw [hz, List.takeWhile_cons_of_pos (p := fun (x : Eg) => decide (x.time ≤ time)) (decide_eq_true (show y.time ≤ time from h21))]
      have hd : V.drop (pre ++ [y]).length = V3 := by rw [hV]; simp
      refine l_rd rfl rfl (x_pick1 rfl (by conv => lhs; whnf)) ?_
      refine WL.nil ?_
      refine WC.cond1 rfl ?_
      refine WC.skip ?_
      refine WC.seq ?_
      refine WC.block ?_
      refine WC.seq ?_
      refine WC.region ?_
      refine l_rd rfl rfl (x_move h0) ?_
      refine l_rd rfl rfl (x_load Try.underlying25 rfl h1 (H.cellL 1 rfl rfl)) ?_
      refine l_rd rfl rfl (x_move h4) ?_
      refine l_st rfl (s_callL cal45 (c45 (t := y.time) (x := y) (V := V3) _ (Hd.arrT [_, _, _, _, _] [3, 4, 0, 1, 2] (by decide) rfl H) rfl) ?_)
      rintro _ w ⟨e, rfl, hke, H⟩
      refine l_st rfl (s_yieldL rfl (hy pre y _ [.agg (edC e).toArray] _ _ hzs (((H.weak (yE_mk hke))).pick 3 rfl)) ?_)
      rintro v w (⟨rfl, H⟩ | ⟨rfl, H⟩)
      ·
        refine l_rd rfl rfl (x_not rfl) ?_
        refine WL.nil ?_
        refine WC.cond0 rfl ?_
        refine WC.skip ?_
        obtain ⟨h, M, hs, tb, hI, H⟩ := BufP.opn (Hd.arrT [_, _, _, _, _] [1, 0, 2, 3, 4] (by decide) rfl H)
        refine WC.region ?_
        refine l_rd rfl rfl (x_load Try.underlying25 rfl h1 (H.cellL 6 rfl rfl)) ?_
        refine l_rd rfl rfl (x_nilCheck rfl) ?_
        refine l_rd rfl rfl (x_fieldAddr Try.underlying56 rfl rfl ty53 (by decide) rfl) ?_
        refine l_rd rfl rfl (x_loadF (vs := [_]) Try.underlying53 rfl ty53 rfl rfl (H.cellsL 0 rfl rfl)) ?_
        refine l_st rfl (s_callL cal44 (c44 _ (HeapP.rd H 2 rfl)) ?_)
        rintro r w ⟨hr1, e1⟩
        have H := H.ext e1
        obtain rfl : r = .tuple #[I (fT V3), .bool (decide (V3 ≠ []))] := hr1.trans (by rw [hI.fst.1, decide_eq_decide.2 hI.fst.2])
        have H := BufP.mk hI (Hd.arrT [_, _, _, _, _, _, _, _] [0, 1, 2, 3, 4, 5, 6, 7] (by decide) rfl H)
        refine l_rd rfl rfl (x_move (by conv => lhs; whnf)) ?_
        refine l_rd rfl rfl (x_extract rfl rfl) ?_
        refine l_rd rfl rfl (x_extract rfl rfl) ?_
        refine l_rd rfl rfl (x_assign (by conv => lhs; whnf)) ?_
        refine l_rd rfl rfl (x_assign (by conv => lhs; whnf)) ?_
        refine WL.nil ?_
        exact ⟨rfl, V3.length, by rw [hn]; simp, pre ++ [y], V3, rfl, by rw [hV]; simp, by rw [hzs]; simp, rfl, rfl, h0, h1, h2, Hd.arrT [_, _, _, _, _] [1, 3, 4, 0, 2] (by decide) rfl H⟩
      ·
        refine l_rd rfl rfl (x_not rfl) ?_
        refine WL.nil ?_
        refine WC.cond1 rfl ?_
        refine WC.exit ?_
        refine atEnd ?_
        exact RetM.none' rfl (.inr ⟨pre, y, _, hzs, by dsimp only; rw [hd]; exact Hd.starAt [_] (Hd.starAt [_, _] (Hd.starAt [_, _, _] (Hd.arrT [_, _, _, _, _] [0, 3, 4, 1, 2] (by decide) rfl H)))⟩)
    ·
      refine l_rd rfl rfl (x_pick1 rfl (by conv => lhs; whnf)) ?_
      refine WL.nil ?_
      refine WC.cond0 rfl ?_
      refine WC.exit ?_
      refine atEnd ?_
      have hz2 : V.takeWhile (fun x => decide (x.time ≤ time)) = pre := by rw [hz, List.takeWhile_cons_of_neg (p := fun (x : Eg) => decide (x.time ≤ time)) (fun q => h21 (of_decide_eq_true q)), List.append_nil]
      exact RetM.none' rfl (.inl (by rw [hz2]; dsimp only; rw [show V.drop pre.length = y :: V3 from by rw [hV]; exact List.drop_left]; exact Hd.starAt [_] (Hd.starAt [_, _] (Hd.starAt [_, _, _] (Hd.arrT [_, _, _, _, _] [0, 1, 2, 3, 4] (by decide) rfl H)))))

end Go.Proofs.Ytahdodijpmkddaa
set_option linter.unusedVariables false
set_option linter.unusedSimpArgs false
namespace Go.Proofs.Ytahdodijpmkddaa
open Go Go.RowKit KE Go.Proofs
theorem cal69 : Cal Try.prog 69 := ⟨_, Try.func69, rfl, by decide⟩
theorem cal85 : Cal Try.prog 85 := ⟨_, Try.func85, rfl, by decide⟩

def allI (g : Sub) (V : List Eg) (B b1 b2 h M : Nat) (tb : Tb) (pre : List It) : Hp := fun m => ∃ q : Value × List Ed, EdFs q.2 (byK V (pre.map (·.1))) ∧
  sep [pt b1 (.cells #[.pointer (some ⟨B, 0, none⟩)] 25 (0, 0)), pt b2 (.cells #[q.1] 28 (0, 0)), Sl q.1 33 5 (byK V (pre.map (·.1))).length (q.2.flatMap edC), ow q.2 (byK V (pre.map (·.1))), pt B (.cells #[.pointer (some ⟨h, 0, none⟩), .map (some M)] 56 (0, 0)), Mp TI M (mlo tb), ot tb, fz g] m
section
variable {s : Sy} {w : World} {L : List Hp} {g : Sub} {V : List Eg} {B b1 b2 h M : Nat} {tb : Tb} {pre : List It}
theorem allI.opn (H : Hd s w (allI g V B b1 b2 h M tb pre :: L)) : ∃ ov es, EdFs es (byK V (pre.map (·.1))) ∧ Hd s w (pt b1 (.cells #[.pointer (some ⟨B, 0, none⟩)] 25 (0, 0)) :: pt b2 (.cells #[ov] 28 (0, 0)) :: Sl ov 33 5 (byK V (pre.map (·.1))).length (es.flatMap edC) :: ow es (byK V (pre.map (·.1))) :: pt B (.cells #[.pointer (some ⟨h, 0, none⟩), .map (some M)] 56 (0, 0)) :: Mp TI M (mlo tb) :: ot tb :: fz g :: L) := by
  obtain ⟨⟨ov, es⟩, hE, H⟩ := Hd.opn H (fun h hh => hh)
  exact ⟨ov, es, hE, Hd.unsep H⟩
theorem allI.mk {ov : Value} {es : List Ed} (hE : EdFs es (byK V (pre.map (·.1)))) (H : Hd s w (pt b1 (.cells #[.pointer (some ⟨B, 0, none⟩)] 25 (0, 0)) :: pt b2 (.cells #[ov] 28 (0, 0)) :: Sl ov 33 5 (byK V (pre.map (·.1))).length (es.flatMap edC) :: ow es (byK V (pre.map (·.1))) :: pt B (.cells #[.pointer (some ⟨h, 0, none⟩), .map (some M)] 56 (0, 0)) :: Mp TI M (mlo tb) :: ot tb :: fz g :: L)) : Hd s w (allI g V B b1 b2 h M tb pre :: L) :=
  (Hd.sep (A := [_, _, _, _, _, _, _, _]) H).weak fun m hm => ⟨(ov, es), hE, hm⟩
theorem ow_snoc2 {es : List Ed} {xs : List Eg} {e : Ed} {x : Eg} (hl : es.length = xs.length) (H : Hd s w (Sl e.pv 86 4 x.props.length (x.props.flatMap prC) :: ow es xs :: L)) : Hd s w (ow (es ++ [e]) (xs ++ [x]) :: L) :=
  H.star.weak fun h hh => ow_app hl h hh
end
theorem EdFs.snoc2 {es : List Ed} {xs : List Eg} {e : Ed} {x : Eg} {pv : Value} (h : EdFs es xs) (he : kk e = kE x) : EdFs (es ++ [{ e with pv := pv }]) (xs ++ [x]) := by
  obtain ⟨h1, h2⟩ := h
  refine ⟨by simp [h1], fun i f y hf hy => ?_⟩
  by_cases hi : i < es.length
  · rw [List.getElem?_append_left hi] at hf
    rw [List.getElem?_append_left (by omega)] at hy
    exact h2 i f y hf hy
  · rw [List.getElem?_append_right (by omega)] at hf
    rw [List.getElem?_append_right (by omega)] at hy
    have h0 : i - es.length = 0 := by
      have := (List.getElem?_eq_some_iff.1 hf).1
      simp at this; omega
    rw [h0] at hf
    rw [← h1, h0] at hy
    simp at hf hy
    subst hf; subst hy
    exact kk_kE (e := { e with pv := pv }) (show kk _ = kE _ from he)
theorem len_snoc {α : Type} {X : List α} {y : α} : (X ++ [y]).length = X.length + 1 := by simp
theorem byK_snoc {V : List Eg} {pre : List It} {x : It} : byK V ((pre ++ [x]).map (·.1)) = byK V (pre.map (·.1)) ++ V.filter (tm x.1) := by
  simp [byK]
theorem c40 {s : Sy} {L : List Hp} {g : Sub} {B : Nat} {V : List Eg} (w : World) (H : Hd s w (BufP g B V :: fz g :: L)) : CC Try.prog 40 [.pointer (some ⟨B, 0, none⟩)].toArray w (fun r w' => ∃ es, EdFs es V ∧ Hd s w' (Sl r 33 5 V.length (es.flatMap edC) :: ow es V :: BufP g B V :: fz g :: L)) := by
  obtain ⟨h, M, hs, tb, hI, H⟩ := BufP.opn H
  obtain ⟨zs, hz, hp⟩ := srt_ex hs
  refine CC.of (N := 33) Try.func40 rfl rfl rfl ?_
  refine WC.seq ?_
  refine WC.region ?_
  refine l_st rfl (s_box (by conv => lhs; whnf) H fun b1 w H => ?_)
  refine l_st rfl (s_alloc ty28 H fun b2 w H => ?_)
  refine WL.nil ?_
  refine WC.seq ?_
  refine WC.seq ?_
  refine WC.region ?_
  refine l_rd rfl rfl (x_load Try.underlying25 rfl rfl (H.cellL 1 rfl rfl)) ?_
  refine l_st rfl (s_callL cal26 (c26 _ (H.obj 2 rfl)) ?_)
  rintro _ w ⟨rfl, e1⟩
  have H := H.ext e1
  refine l_rd rfl rfl (x_not rfl) ?_
  refine WL.nil ?_
  refine WC.cond0 rfl ?_
  refine WC.skip ?_
  refine WC.seq ?_
  refine WC.seq ?_
  refine WC.region ?_
  refine l_rd rfl rfl (x_load Try.underlying25 rfl rfl (H.cellL 1 rfl rfl)) ?_
  refine l_rd rfl rfl (x_nilCheck rfl) ?_
  refine l_rd rfl rfl (x_fieldAddr Try.underlying56 rfl rfl ty53 (by decide) rfl) ?_
  refine l_rd rfl rfl (x_loadF (vs := [_]) Try.underlying53 rfl ty53 rfl rfl (H.cellsL 2 rfl rfl)) ?_
  refine l_st rfl (s_callL cal69 (c69 _ H) ?_)
  rintro _ w ⟨x1, rfl, H⟩
  refine WL.nil ?_
  refine WC.block ?_
  have H := Hd.starAt [_] (allI.mk (V := V) (pre := []) (es := []) ⟨rfl, fun i e x h => by simp at h⟩ (Hd.arrT [_, _, _, _, _, _, _, _, _, _] [4, 3, 1, 0, 5, 6, 8, 9, 2, 7] (by decide) rfl (ow_nil (Hd.nil H 33 5))))
  refine WC.rangeFn (P := Try.prog) (caps := [.pointer (some ⟨x1, 0, none⟩)]) (E := fun (p : It) vs => fun _ => vs = [I p.1]) (xs := zs) (A := star (pt x1 (.cells #[.pointer (some ⟨h, 0, none⟩)] 53 (0, 0))) (HeapP h hs)) (B := fun _ => star (pt x1 (.cells #[.pointer (some ⟨h, 0, none⟩)] 53 (0, 0))) (HeapP h hs)) (I := allI g V B b1 b2 h M tb) (X := fun _ _ => fun _ => False) (L := L) rfl cal85 (by decide) (fun x vs h hv => by have : vs = _ := hv; rw [this]; rfl) (it85 hI.heap hz hp hI.kle hI.hlen) H ?_ ?_ ?_
  ·
    intro l pre x rest vs w L' L2 hxs hrec H
    obtain ⟨hh, _, hvs⟩ := H.fact_at 1 rfl
    have hvs : vs = [I x.1] := hvs
    subst hvs
    refine WC.region ?_
    refine l_rd rfl rfl (x_assign (by conv => lhs; whnf)) ?_
    refine WL.nil ?_
    refine ⟨⟨[_, _], H⟩, fun w2 hw2 => ?_⟩
    clear hrec
    have H := Hd.arrT [_, _] [0] (by decide) rfl (hw2 [_, _] H)
    clear hw2
    obtain ⟨ov, es1, hE1, H⟩ := allI.opn H
    have hpl : pre.length ≤ 1000 := by have h1 := congrArg List.length hxs; simp only [List.length_append, List.length_cons] at h1; have h2 := hp.length_eq; have h3 := hI.hlen; omega
    have hbl := byK_len hI.len (pre.map (·.1))
    rw [List.length_map] at hbl
    obtain ⟨u, es0, rest0, hu, hes0, -, -, -, -, hnil, hop, hcl, -, -⟩ := tb_get hI x.1
    have H := hop (Hd.arrT [_, _, _, _, _, _, _] [6, 0, 1, 2, 3, 4, 5] (by decide) rfl H)
    have H : Hd s _ (Sl u 33 5 es0.length (es0.flatMap edC) :: ot rest0 :: _) := H
    obtain ⟨a, c, rfl⟩ := (H.sl 0 rfl).shape
    have hFl := List.length_filter_le (tm x.1) V
    have hVl := hI.len
    have hel := hes0.len
    refine WC.block ?_
    refine WC.seq ?_
    refine WC.region ?_
    refine l_rd rfl rfl (x_load Try.underlying25 rfl rfl (H.cellL 2 rfl rfl)) ?_
    refine l_rd rfl rfl (x_nilCheck rfl) ?_
    refine l_rd rfl rfl (x_fieldAddr Try.underlying56 rfl rfl ty54 (by decide) rfl) ?_
    refine l_rd rfl rfl (x_load Try.underlying54 rfl rfl (H.cellL 6 rfl rfl)) ?_
    refine l_rd rfl rfl (x_move (by conv => lhs; whnf)) ?_
    refine l_rd rfl rfl (x_lookM TI Try.underlying54 ty28 rfl rfl H 7 rfl hu) ?_
    refine l_rd rfl rfl (x_lenSlice Try.underlying28 rfl rfl) ?_
    refine l_rd rfl rfl (x_move ev_c) ?_
    refine WL.nil ?_
    refine WC.block ?_
    refine WC.loopN (I := fun n ρ w => ∃ (j : Nat) (ov : Value) (es1 : List Ed), n = es0.length - j ∧ j ≤ es0.length ∧ EdFs es1 (byK V (pre.map (·.1)) ++ (V.filter (tm x.1)).take j) ∧ ρ 22 = I j ∧ ρ 21 = I es0.length ∧ ρ 20 = .slice a es0.length c ∧ ρ 2 = .pointer (some ⟨b2, 0, none⟩) ∧ Hd s w (Sl (.slice a es0.length c) 33 5 es0.length (es0.flatMap edC) :: ot rest0 :: pt b1 (.cells #[.pointer (some ⟨B, 0, none⟩)] 25 (0, 0)) :: pt b2 (.cells #[ov] 28 (0, 0)) :: Sl ov 33 5 (byK V (pre.map (·.1)) ++ (V.filter (tm x.1)).take j).length (es1.flatMap edC) :: ow es1 (byK V (pre.map (·.1)) ++ (V.filter (tm x.1)).take j) :: pt B (.cells #[.pointer (some ⟨h, 0, none⟩), .map (some M)] 56 (0, 0)) :: Mp TI M (mlo tb) :: fz g :: L2)) (n0 := _) (⟨0, _, es1, rfl, Nat.zero_le _, by rw [List.take_zero, List.append_nil]; exact hE1, rfl, rfl, rfl, rfl, by rw [List.take_zero, List.append_nil]; exact H⟩) ?_
    repeat clear H
    rintro n ρ w ⟨j, ov, es1, hn, hj, hE1, h22, h21, h20, h2, H⟩
    obtain ⟨ao, co, rfl⟩ := (H.sl 4 rfl).shape
    have hXl : (byK V (pre.map (·.1)) ++ (V.filter (tm x.1)).take j).length ≤ 1001000 := by rw [List.length_append]; have := List.length_take_le j (V.filter (tm x.1)); have h5 := List.length_take_le' j (V.filter (tm x.1)); omega
    refine WC.seq ?_
    refine WC.region ?_
    refine l_rdD rfl rfl (x_lss h22 h21) (fun h23 => ?_) (fun h23 => ?_)
    ·
      refine WL.nil ?_
      refine WC.seq ?_
      refine WC.cond1 rfl ?_
      refine WC.skip ?_
      refine WC.seq ?_
      refine WC.block ?_
      refine WC.seq ?_
      obtain ⟨e, hej⟩ := lt_get (show j < es0.length by omega)
      obtain ⟨y, hyj⟩ := lt_get (show j < (V.filter (tm x.1)).length by omega)
      have he := hes0.get hej hyj
      have hyV : y ∈ V := (List.mem_filter.1 (List.mem_of_getElem? hyj)).1
      obtain ⟨q1, q2, q3, q4, q5⟩ := e
      obtain ⟨ea, ec, rfl⟩ : ∃ a c, q5 = .slice a y.props.length c := (he.2.2.at H 8 rfl).shape
      obtain ⟨b7, o7, rfl, -⟩ := (show RdS w _ 5 edC es0 from H.sl 0 rfl).el edC_len hej
      refine WC.region ?_
      refine l_rd rfl rfl (x_indexAddr Try.underlying28 ty33 h20 h22 (by omega) (by omega)) ?_
      refine l_rd rfl rfl (x_loadF (vs := [_, _, _, _, _]) Try.underlying33 rfl ty33 rfl rfl (sub_row 0 (RdS.at edC_len (show RdS _ _ 5 edC es0 from H.sl 0 rfl) hej) rfl)) ?_
      refine l_st rfl (s_alloc ty33 H fun b5 w H => ?_)
      refine l_no (s_stA 0 rfl ty33 rfl (by conv => lhs; whnf) rfl rfl rfl H fun w H => ?_)
      refine WL.nil ?_
      refine WC.draw mixed [2, 3, 4, 5] [[], [], [1], [1, 2], [0, 1, 2, 3], [0, 1, 2, 3, 4]] [0, 1, 2, 3, 4, 5] (by kernel_rfl) ?_
      have H := H.drew
      refine k_rd rfl rfl (RS.of rfl rfl (x_load Try.underlying28 rfl h2 (H.cellL 4 rfl rfl))) ?_
      refine k_rd rfl rfl (RS.of rfl rfl (x_loadF (vs := [_, _, _, _, _]) Try.underlying33 rfl ty33 rfl rfl (H.cellsL 0 rfl rfl))) ?_
      refine k_st rfl rfl rfl (s_callL cal34 (c34 (e := ⟨q1, q2, q3, q4, .slice ea y.props.length ec⟩) _ H (fun w A h => he.2.2.in h (List.mem_append_right _ ((List.mem_cons_of_mem _ (List.mem_cons_of_mem _ (List.mem_cons_of_mem _ (List.mem_cons_of_mem _ (List.mem_cons_of_mem _ (List.mem_cons_of_mem _ (List.mem_cons_of_mem _ (List.mem_cons_of_mem _ (List.mem_cons_of_mem _ List.mem_cons_self)))))))))))) (hI.pl y hyV)) ?_)
      rintro _ w ⟨pv, rfl, H⟩
      obtain ⟨pa, pc, rfl⟩ := (H.sl 0 rfl).shape
      refine ⟨⟨trivial, ⟨RS.of rfl rfl (x_load Try.underlying28 rfl h2 (H.cellL 5 rfl rfl)), trivial⟩⟩, ?_⟩
      refine k_st rfl rfl rfl (s_build1A Try.underlying28 ty33 rfl (by decide) (by decide) (by conv => lhs; whnf) rfl H fun b29 w H => ⟨⟨trivial, ⟨RS.of rfl rfl (x_load Try.underlying28 rfl h2 (H.cellL 6 rfl rfl)), trivial⟩⟩, ?_⟩)
      refine k_st rfl rfl rfl (s_append Try.underlying28 ty33 rfl (by decide) (by decide) rfl 7 rfl rfl rfl (H.sl 0 rfl) (by simp [Value.oneCell']) (by omega) H fun v30 w H => ⟨⟨trivial, ⟨trivial, trivial⟩⟩, ?_⟩)
      obtain ⟨a30, c30, rfl⟩ := (H.sl 7 rfl).shape
      refine k_no rfl rfl rfl (s_st 6 rfl ty28 h2 (by conv => lhs; whnf) rfl rfl H fun w H => ⟨⟨trivial, ⟨trivial, trivial⟩⟩, ?_⟩)
      show _
      refine WC.region ?_
      refine l_rd rfl rfl (x_addN (a := j) (b := 1) h22 rfl (by omega)) ?_
      refine l_rd rfl rfl (x_move (by conv => lhs; whnf)) ?_
      refine WL.nil ?_
      have H := ow_snoc2 (e := ⟨q1, q2, q3, q4, .slice pa y.props.length pc⟩) (x := y) hE1.1 (Hd.arrT [_, _, _, _, _, _, _, _, _, _, _, _] [1, 8, 3, 4, 5, 6, 7, 9, 10, 11] (by decide) rfl H)
      have H := Hd.arrT [_, _, _, _, _, _, _, _, _] [1, 2, 3, 4, 5, 0, 6, 7, 8] (by decide) rfl H
      refine ⟨rfl, es0.length - (j + 1), by omega, j + 1, .slice a30 ((byK V (pre.map (·.1)) ++ (V.filter (tm x.1)).take j).length + 1) c30, es1 ++ [⟨q1, q2, q3, q4, .slice pa y.props.length pc⟩], rfl, by omega, ?_, rfl, h21, h20, h2, ?_⟩
      · rw [take_snoc hyj, ← List.append_assoc]; exact hE1.snoc2 he.1
      · rw [take_snoc hyj, ← List.append_assoc, len_snoc, List.flatMap_append]; exact H
    ·
      refine WL.nil ?_
      refine WC.seq ?_
      refine WC.cond0 rfl ?_
      refine WC.exit ?_
      have hje : j = es0.length := by omega
      subst hje
      rw [List.take_of_length_le (by rw [hes0.len]; exact Nat.le_refl _), ← byK_snoc] at hE1 H
      have H := tb_close hnil hcl (Hd.arrT [_, _, _, _, _, _, _, _, _] [0, 1, 2, 3, 4, 5, 6, 7, 8] (by decide) rfl H)
      exact allI.mk hE1 (Hd.arrT [_, _, _, _, _, _, _, _] [1, 2, 3, 4, 5, 6, 0, 7] (by decide) rfl H)
  ·
    intro w m H
    obtain ⟨ov, es1, hE1, H⟩ := allI.opn H
    rw [hI.all hz hp] at hE1 H
    obtain ⟨ao, co, rfl⟩ := (H.sl 2 rfl).shape
    have H := Hd.unstarAt [_, _, _, _, _, _, _, _] H
    refine WC.seq ?_
    refine WC.region ?_
    refine l_rd rfl rfl (x_load Try.underlying28 rfl rfl (H.cellL 1 rfl rfl)) ?_
    refine l_no (s_st 1 rfl ty28 rfl (by conv => lhs; whnf) rfl rfl H fun w H => ?_)
    refine WL.nil ?_
    refine WC.ret ?_
    refine atRet ?_
    refine RetM.mark H (i := 10) rfl (fun w H => ?_)
    exact RetM.cell1 rfl (by (conv => lhs; whnf); try rfl) Try.underlying28 rfl (H.cellL 1 rfl rfl) (⟨es1, hE1, by have H := Hd.arrT [_, _, _, _, _, _, _, _, _, _, _] [4, 5, 9, 6, 2, 3, 7] (by decide) rfl H; exact Hd.arrT [_, _, _] [1, 2, 0] (by decide) rfl (BufP.mk hI H)⟩)
  ·
    intro w m c pre x rest hxs H
    obtain ⟨hh, _, hF⟩ := H.fact_at 0 rfl
    exact hF.elim

end Go.Proofs.Ytahdodijpmkddaa
set_option linter.unusedVariables false
set_option linter.unusedSimpArgs false
namespace Go.Proofs.Ytahdodijpmkddaa
open Go Go.RowKit KE Go.Proofs

theorem edl {w : World} {v : Value} {es : List Ed} {xs : List Eg} (h : EdFs es xs) (k : RdC w v 5 xs.length (es.flatMap edC)) : RdS w v 5 edC es := by
  unfold RdS; rw [h.1]; exact k
theorem ow_rd {s : Sy} {w : World} : ∀ {es : List Ed} {xs : List Eg} {L : List Hp} {i : Nat} {e : Ed} {x : Eg}, Hd s w (ow es xs :: L) → es[i]? = some e → xs[i]? = some x → RdS w e.pv 4 prC x.props
  | e :: es, x :: xs, L, 0, e', x', H, h1, h2 => by
    simp at h1 h2; subst h1; subst h2
    exact (Hd.unstar (show Hd s w (star _ (ow es xs) :: L) from H)).sl 0 rfl
  | e :: es, x :: xs, L, i + 1, e', x', H, h1, h2 => ow_rd (Hd.unstar (show Hd s w (star _ (ow es xs) :: L) from H)).drop (by simpa using h1) (by simpa using h2)
  | [], _, L, i, e', x', H, h1, h2 => by simp at h1
  | _ :: _, [], L, i, e', x', H, h1, h2 => by simp at h2
theorem ow_rdi {s : Sy} {w : World} {es : List Ed} {xs : List Eg} {L : List Hp} {i : Nat} {e : Ed} {x : Eg} (H : Hd s w L) (j : Nat) (hj : L[j]? = some (ow es xs)) (h1 : es[i]? = some e) (h2 : xs[i]? = some x) : RdS w e.pv 4 prC x.props := ow_rd (H.pick j hj) h1 h2
theorem ow_put {e : Ed} {x : Eg} : ∀ {es : List Ed} {xs : List Eg} (k : Nat), es.length = xs.length → ∀ h, star (Sl e.pv 86 4 x.props.length (x.props.flatMap prC)) (ow es xs) h → ow (es.take k ++ e :: es.drop k) (xs.take k ++ x :: xs.drop k) h
  | [], [], k, hl, h, hh => by simp only [List.take_nil, List.drop_nil, List.nil_append]; exact hh
  | f :: es, y :: xs, 0, hl, h, hh => hh
  | f :: es, y :: xs, k + 1, hl, h, hh => star_mono (star_swap hh) (fun _ h => h) (fun _ h => ow_put k (by simpa using hl) _ h)
theorem ow_ins {s : Sy} {w : World} {L : List Hp} {es : List Ed} {xs : List Eg} {e : Ed} {x : Eg} {k : Nat} (hl : es.length = xs.length) (H : Hd s w (Sl e.pv 86 4 x.props.length (x.props.flatMap prC) :: ow es xs :: L)) : Hd s w (ow (es.take k ++ e :: es.drop k) (xs.take k ++ x :: xs.drop k) :: L) :=
  H.star.weak fun h hh => ow_put k hl h hh
theorem ins_len2 {ys : List Eg} {x : Eg} {k : Nat} (hk : k ≤ ys.length) : (ys.take k ++ x :: ys.drop k).length = 0 + k + (1 + (ys.length - k)) := by simp; omega
theorem ins_flat {es : List Ed} {e : Ed} {k : Nat} : (es.take k ++ e :: es.drop k).flatMap edC = [] ++ (es.flatMap edC).take (k * 5) ++ (edC e ++ (es.flatMap edC).drop (k * 5)) := by
  rw [ins_cells, List.nil_append, List.append_assoc]
theorem ins_perm {ys xs : List Eg} {x : Eg} {k : Nat} (h : ys.Perm xs) : (ys.take k ++ x :: ys.drop k).Perm (xs ++ [x]) := by
  refine List.perm_middle.trans ?_
  rw [List.take_append_drop]
  exact (h.cons x).trans (List.perm_append_comm (l₁ := [x]))
theorem nlt_tr {a b c : Eg} (h1 : ¬ lt b a) (h2 : ¬ lt c b) : ¬ lt c a := fun k => by
  rcases lt_tri a b with h | h | h
  · exact h2 (ahd_trans k h)
  · exact h2 (by unfold lt; rw [← kE_like h]; exact k)
  · exact h1 h
theorem ins_pw {ys : List Eg} {x : Eg} {k : Nat} (hW : ys.Pairwise (fun a b => ¬ lt b a)) (hk : k ≤ ys.length) (hgt : ∀ (q : Nat) (y : Eg), k ≤ q → ys[q]? = some y → lt x y) (hno : ∀ y, 0 < k → ys[k - 1]? = some y → ¬ lt x y) : (ys.take k ++ x :: ys.drop k).Pairwise (fun a b => ¬ lt b a) := by
  have hW' := hW
  rw [← List.take_append_drop k ys] at hW'
  obtain ⟨p1, p2, p3⟩ := List.pairwise_append.1 hW'
  have ha : ∀ a ∈ ys.take k, ¬ lt x a := fun a ha => by
    obtain ⟨q, hq⟩ := List.getElem?_of_mem ha
    rw [List.getElem?_take] at hq
    split at hq
    · rename_i hqk
      obtain ⟨z, hz⟩ := lt_get (show k - 1 < ys.length by omega)
      have hz2 := hno z (by omega) hz
      by_cases hqe : q = k - 1
      · subst hqe; rw [hz] at hq; cases hq; exact hz2
      · obtain ⟨u1, u2⟩ := List.getElem?_eq_some_iff.1 hq
        obtain ⟨v1, v2⟩ := List.getElem?_eq_some_iff.1 hz
        have := List.pairwise_iff_getElem.1 hW q (k - 1) u1 v1 (by omega)
        rw [u2, v2] at this
        exact nlt_tr this hz2
    · cases hq
  have hb : ∀ b ∈ ys.drop k, ¬ lt b x := fun b hb => by
    obtain ⟨q, hq⟩ := List.getElem?_of_mem hb
    rw [List.getElem?_drop] at hq
    exact ahd_asym (hgt (k + q) b (by omega) hq)
  refine List.pairwise_append.2 ⟨p1, List.pairwise_cons.2 ⟨hb, p2⟩, fun a h1 b h2 => ?_⟩
  rcases List.mem_cons.1 h2 with rfl | h2
  · exact ha a h1
  · exact p3 a h1 b h2
theorem ahd_fields {e f : Ed} {x y : Eg} (h : e.src = x.src ∧ e.dst = x.dst ∧ e.lab = x.lab ∧ e.time = x.time) (k : f.src = y.src ∧ f.dst = y.dst ∧ f.lab = y.lab ∧ f.time = y.time) : ahd e f ↔ lt x y := by
  have h1 : kk e = kE x := by unfold kk kE; rw [h.1, h.2.1, h.2.2.1, h.2.2.2]
  have h2 : kk f = kE y := by unfold kk kE; rw [k.1, k.2.1, k.2.2.1, k.2.2.2]
  unfold lt; rw [← h1, ← h2]; exact ahd_kk.symm
theorem EdFs.ins {es : List Ed} {xs : List Eg} {e : Ed} {x : Eg} {pv : Value} (h : EdFs es xs) (k : Nat) (he : e.src = x.src ∧ e.dst = x.dst ∧ e.lab = x.lab ∧ e.time = x.time) : EdFs (es.take k ++ { e with pv := pv } :: es.drop k) (xs.take k ++ x :: xs.drop k) := by
  obtain ⟨h1, h2⟩ := h
  refine ⟨by simp; omega, fun i f y hf hy => ?_⟩
  have e1 : (es.take k).length = (xs.take k).length := by simp [h1]
  by_cases hi : i < (es.take k).length
  · rw [List.getElem?_append_left hi, List.getElem?_take] at hf
    rw [List.getElem?_append_left (by omega), List.getElem?_take] at hy
    split at hf
    · rename_i hik; rw [if_pos hik] at hy; exact h2 i f y hf hy
    · cases hf
  · rw [List.getElem?_append_right (by omega)] at hf
    rw [List.getElem?_append_right (by omega), ← e1] at hy
    generalize i - (es.take k).length = j at hf hy
    cases j with
    | zero => simp at hf hy; subst hf; subst hy; exact he
    | succ j =>
      simp only [List.getElem?_cons_succ, List.getElem?_drop] at hf hy
      exact h2 _ f y hf hy
theorem one_dropE {es : List Ed} {n : Nat} (h1 : ∀ x ∈ es, oneC x.pv = true) : ∀ u ∈ (es.flatMap edC).drop n, oneC u = true := fun u hu => one_flat h1 u (List.mem_of_mem_drop hu)
theorem one_takeE {es : List Ed} {n : Nat} (h1 : ∀ x ∈ es, oneC x.pv = true) : ∀ u ∈ (es.flatMap edC).take n, oneC u = true := fun u hu => one_flat h1 u (List.mem_of_mem_take hu)
theorem one_consE {e : Ed} {es : List Ed} {n : Nat} (h : oneC e.pv = true) (h1 : ∀ x ∈ es, oneC x.pv = true) : ∀ u ∈ edC e ++ (es.flatMap edC).drop n, oneC u = true := fun u hu => by
  rcases List.mem_append.1 hu with hu | hu
  · exact edC_one e h u hu
  · exact one_dropE h1 u hu
theorem ow_one {s : Sy} {w : World} {es : List Ed} {xs : List Eg} {L : List Hp} (H : Hd s w L) (j : Nat) (hj : L[j]? = some (ow es xs)) (hl : es.length = xs.length) : ∀ e ∈ es, oneC e.pv = true := fun e he => by
  obtain ⟨i, hi⟩ := List.getElem?_of_mem he
  obtain ⟨x, hx⟩ := lt_get (show i < xs.length by rw [← hl]; exact (List.getElem?_eq_some_iff.1 hi).1)
  obtain ⟨a, c, h⟩ := (ow_rdi H j hj hi hx).shape
  rw [h]; rfl
theorem c47 {s : Sy} {L : List Hp} {v : Value} {es : List Ed} {xs : List Eg} (w : World) (H : Hd s w (Sl v 33 5 xs.length (es.flatMap edC) :: ow es xs :: L)) (hE0 : EdFs es xs) (hb : xs.length ≤ 1000) (hb2 : ∀ x ∈ xs, x.props.length ≤ 1000) : CC Try.prog 47 [v].toArray w (fun r w' => ∃ es2 ys, EdFs es2 ys ∧ ys.Perm xs ∧ ys.Pairwise (fun a b => ¬ lt b a) ∧ Hd s w' (Sl r 33 5 ys.length (es2.flatMap edC) :: ow es2 ys :: L)) := by
  obtain ⟨a, c, rfl⟩ := (H.sl 0 rfl).shape
  refine CC.of (N := 55) Try.func47 rfl rfl rfl ?_
  refine WC.seq ?_
  refine WC.region ?_
  refine l_rd rfl rfl (x_assign ev_c) ?_
  refine WL.nil ?_
  refine WC.seq ?_
  refine WC.region ?_
  refine l_rd rfl rfl (x_assign ev_c) ?_
  refine WL.nil ?_
  refine WC.seq ?_
  refine WC.seq ?_
  have H := Hd.arrT [_, _, _, _] [2, 3, 1, 0] (by decide) rfl (ow_nil (Hd.nil H 33 5))
  refine WC.region ?_
  refine l_rd rfl rfl (x_assign ev_c) ?_
  refine WL.nil ?_
  refine WC.block ?_
  refine WC.loopN (I := fun n ρ w => ∃ (i : Nat) (ov : Value) (es2 : List Ed) (ys : List Eg), n = xs.length - i ∧ i ≤ xs.length ∧ EdFs es2 ys ∧ ys.Perm (xs.take i) ∧ ys.Pairwise (fun a b => ¬ lt b a) ∧ ρ 4 = I i ∧ ρ 3 = ov ∧ ρ 0 = .slice a xs.length c ∧ Hd s w (Sl (.slice a xs.length c) 33 5 xs.length (es.flatMap edC) :: ow es xs :: Sl ov 33 5 ys.length (es2.flatMap edC) :: ow es2 ys :: L)) (n0 := _) (⟨0, _, [], [], rfl, Nat.zero_le _, ⟨rfl, fun i e x h => by simp at h⟩, by rw [List.take_zero], List.Pairwise.nil, rfl, rfl, rfl, H⟩) ?_
  repeat clear H
  rintro n ρ w ⟨i, ov, es2, ys, hn, hi, hE, hP, hW, h4, h3, h0, H⟩
  obtain ⟨ao, co, rfl⟩ := (H.sl 2 rfl).shape
  have hcapo := (Hd.cap H 2 rfl).1
  have hyl : ys.length = i := by rw [hP.length_eq, List.length_take]; omega
  refine WC.seq ?_
  refine WC.seq ?_
  refine WC.region ?_
  refine l_rd rfl rfl (x_move h4) ?_
  refine l_rd rfl rfl (x_move h0) ?_
  refine l_rd rfl rfl (x_lenSlice Try.underlying28 rfl rfl) ?_
  refine l_rdD rfl rfl (x_lss rfl rfl) (fun h11 => ?_) (fun h11 => ?_)
  ·
    refine WL.nil ?_
    refine WC.cond1 rfl ?_
    refine WC.skip ?_
    refine WC.seq ?_
    refine WC.block ?_
    refine WC.seq ?_
    obtain ⟨x, hxi⟩ := lt_get (show i < xs.length by omega)
    obtain ⟨e, hei⟩ := lt_get (show i < es.length by rw [hE0.1]; omega)
    have hex := hE0.2 _ _ _ hei hxi
    obtain ⟨q1, q2, q3, q4, q5⟩ := e
    obtain ⟨ea, ec, rfl⟩ : ∃ a c, q5 = .slice a x.props.length c := (ow_rdi H 1 rfl hei hxi).shape
    have hxm := hb2 x (List.mem_of_getElem? hxi)
    refine WC.region ?_
    refine l_rd rfl rfl (x_move h3) ?_
    refine l_rd rfl rfl (x_lenSlice Try.underlying28 rfl rfl) ?_
    refine l_rd rfl rfl (x_assign (by conv => lhs; whnf)) ?_
    refine WL.nil ?_
    refine WC.seq ?_
    refine WC.block ?_
    refine WC.loopN (I := fun n ρ w => ∃ k : Nat, n = k ∧ k ≤ ys.length ∧ (∀ (q : Nat) (y : Eg), k ≤ q → ys[q]? = some y → lt x y) ∧ ρ 5 = I k ∧ ρ 4 = I i ∧ ρ 3 = .slice ao ys.length co ∧ ρ 0 = .slice a xs.length c ∧ Hd s w (Sl (.slice a xs.length c) 33 5 xs.length (es.flatMap edC) :: ow es xs :: Sl (.slice ao ys.length co) 33 5 ys.length (es2.flatMap edC) :: ow es2 ys :: L)) (n0 := _) (⟨ys.length, rfl, Nat.le_refl _, fun q y h1 h2 => by have := (List.getElem?_eq_some_iff.1 h2).1; omega, rfl, h4, h3, h0, H⟩) ?_
    repeat clear H
    rintro n ρ w ⟨k, hnk, hk, hgt, h5, h4, h3, h0, H⟩
    refine WC.seq ?_
    refine WC.seq ?_
    refine WC.draw mixed [12] [[], [0], [0, 1], [0, 1, 2], [0, 1, 2], [0, 1, 2, 3, 4], [0, 1, 2, 3, 4, 5], [0, 1, 2], [0, 1, 2], [0, 1, 2, 8], [0, 1, 2, 7, 8, 9], [0, 1, 2, 7, 8, 9, 10], [0, 1, 2, 3, 4, 5, 6, 7, 8, 9, 10, 11], [0, 1, 2, 3, 4, 5, 6, 7, 8, 9, 10, 11, 12]] [0, 1, 2, 3, 4, 5, 6, 7, 8, 9, 10, 11, 12, 13] (by kernel_rfl) ?_
    have H := H.drew
    refine k_rd rfl rfl (RS.of rfl rfl (x_move h5)) ?_
    refine k_rdD rfl rfl rfl rfl (x_gtr rfl rfl) (fun h17 => ?_) (fun h17 => ?_)
    ·
      obtain ⟨be, oe, rfl, -⟩ := (show RdS _ _ 5 edC es from edl hE0 (H.sl 0 rfl)).el edC_len hei
      obtain ⟨f, hfk⟩ := lt_get (show k - 1 < es2.length by rw [hE.1]; omega)
      obtain ⟨y, hyk⟩ := lt_get (show k - 1 < ys.length by omega)
      have hfy := hE.2 _ _ _ hfk hyk
      obtain ⟨bf, of_, rfl, -⟩ := (show RdS _ _ 5 edC es2 from edl hE (H.sl 2 rfl)).el edC_len hfk
      refine k_rd rfl rfl (RS.of rfl rfl (x_move (by conv => lhs; whnf))) ?_
      refine k_rd rfl rfl (RS.yes rfl (wantY rfl rfl rfl) (x_move h0)) ?_
      refine k_rd rfl rfl (RS.yes rfl (wantY rfl rfl rfl) (x_move h4)) ?_
      refine k_rd rfl rfl (RS.yes rfl (wantY rfl rfl rfl) (x_indexAddr Try.underlying28 ty33 rfl rfl (by omega) (by omega))) ?_
      refine k_rd rfl rfl (RS.yes rfl (wantY rfl rfl rfl) (x_loadF (vs := [_, _, _, _, _]) Try.underlying33 rfl ty33 rfl rfl (sub_row 0 (RdS.at edC_len (show RdS _ _ 5 edC es from edl hE0 (H.sl 0 rfl)) hei) rfl))) ?_
      refine k_rd rfl rfl (RS.yes rfl (wantY rfl rfl rfl) (x_move h3)) ?_
      refine k_rd rfl rfl (RS.yes rfl (wantY rfl rfl rfl) (x_move h5)) ?_
      refine k_rd rfl rfl (RS.yes rfl (wantY rfl rfl rfl) (x_subN (a := k) (b := 1) rfl rfl (by omega) (by omega))) ?_
      refine k_rd rfl rfl (RS.yes rfl (wantY rfl rfl rfl) (x_indexAddr Try.underlying28 ty33 rfl rfl (by omega) (by omega))) ?_
      refine k_rd rfl rfl (RS.yes rfl (wantY rfl rfl rfl) (x_loadF (vs := [_, _, _, _, _]) Try.underlying33 rfl ty33 rfl rfl (sub_row 0 (RdS.at edC_len (show RdS _ _ 5 edC es2 from edl hE (H.sl 2 rfl)) hfk) rfl))) ?_
      refine k_st rfl rfl (wantY rfl rfl rfl) (s_callL cal72 (c72 (e := ⟨q1, q2, q3, q4, .slice ea x.props.length ec⟩) (f := f) _) ?_)
      rintro r w ⟨hr1, e1⟩
      have H := H.ext e1
      by_cases h28 : ahd ⟨q1, q2, q3, q4, .slice ea x.props.length ec⟩ f
      ·
        obtain rfl : r = .bool true := by rw [hr1, decide_eq_true h28]
        refine ⟨⟨trivial, ⟨trivial, ⟨trivial, ⟨trivial, ⟨trivial, ⟨trivial, ⟨trivial, ⟨trivial, ⟨trivial, ⟨trivial, ⟨trivial, ⟨trivial, trivial⟩⟩⟩⟩⟩⟩⟩⟩⟩⟩⟩⟩, ?_⟩
        have hgt2 : ∀ (q : Nat) (y : Eg), k - 1 ≤ q → ys[q]? = some y → lt x y := fun q z h1 h2 => by
          by_cases hq : q = k - 1
          · subst hq; rw [hyk] at h2; cases h2; exact (ahd_fields hex hfy).1 h28
          · exact hgt q z (by omega) h2
        refine k_rd rfl rfl (RS.of rfl rfl (x_pick1 rfl (by conv => lhs; whnf))) ?_
        show _
        refine WC.cond1 rfl ?_
        refine WC.skip ?_
        refine WC.block ?_
        refine WC.region ?_
        refine l_rd rfl rfl (x_move h5) ?_
        refine l_rd rfl rfl (x_subN (a := k) (b := 1) rfl rfl (by omega) (by omega)) ?_
        refine l_rd rfl rfl (x_assign (by conv => lhs; whnf)) ?_
        refine WL.nil ?_
        refine blockE_n ?_
        exact ⟨rfl, k - 1, by omega, k - 1, rfl, by omega, hgt2, rfl, h4, h3, h0, H⟩
      ·
        obtain rfl : r = .bool false := by rw [hr1, decide_eq_false h28]
        refine ⟨⟨trivial, ⟨trivial, ⟨trivial, ⟨trivial, ⟨trivial, ⟨trivial, ⟨trivial, ⟨trivial, ⟨trivial, ⟨trivial, ⟨trivial, ⟨trivial, trivial⟩⟩⟩⟩⟩⟩⟩⟩⟩⟩⟩⟩, ?_⟩
        have hno : ∀ y, 0 < k → ys[k - 1]? = some y → ¬ lt x y := fun z h h2 => by rw [hyk] at h2; cases h2; exact fun q => h28 ((ahd_fields hex hfy).2 q)
        refine k_rd rfl rfl (RS.of rfl rfl (x_pick1 rfl (by conv => lhs; whnf))) ?_
        show _
        refine WC.cond0 rfl ?_
        refine WC.exit ?_
        refine WC.seq ?_
        obtain ⟨be, oe, hab, -⟩ := (show RdS _ _ 5 edC es from edl hE0 (H.sl 0 rfl)).el edC_len hei
        first | subst hab | skip
        have hone := ow_one H 3 rfl hE.1
        refine WC.region ?_
        refine l_rd rfl rfl (x_move h0) ?_
        refine l_rd rfl rfl (x_move h4) ?_
        refine l_rd rfl rfl (x_indexAddr Try.underlying28 ty33 rfl rfl (by omega) (by omega)) ?_
        refine l_rd rfl rfl (x_loadF (vs := [_, _, _, _, _]) Try.underlying33 rfl ty33 rfl rfl (sub_row 0 (RdS.at edC_len (show RdS _ _ 5 edC es from edl hE0 (H.sl 0 rfl)) hei) rfl)) ?_
        refine l_st rfl (s_alloc ty33 H fun b6 w H => ?_)
        refine l_no (s_stA 0 rfl ty33 rfl (by conv => lhs; whnf) rfl rfl rfl H fun w H => ?_)
        refine WL.nil ?_
        refine WC.seq ?_
        refine WC.region ?_
        refine l_st rfl (s_build0 Try.underlying31 ty86 H fun b36 w H => ?_)
        refine l_rd rfl rfl (x_fieldAddr Try.underlying33 rfl rfl ty31 (by decide) rfl) ?_
        refine l_rd rfl rfl (x_load Try.underlying31 rfl rfl (H.cellL 1 rfl rfl)) ?_
        refine l_st rfl (s_append Try.underlying31 ty86 rfl (by decide) (by decide) rfl 0 rfl rfl rfl (ow_rdi H 3 rfl hei hxi) (prC_one _) (by omega) H (fun v39 w H => ?_))
        obtain ⟨a39, c39, rfl⟩ := (H.sl 0 rfl).shape
        rw [Nat.zero_add x.props.length] at H ⊢
        refine l_rd rfl rfl (x_fieldAddr Try.underlying33 rfl rfl ty31 (by decide) rfl) ?_
        refine l_no (s_st 1 rfl ty31 rfl (by conv => lhs; whnf) rfl rfl H fun w H => ?_)
        refine WL.nil ?_
        refine WC.seq ?_
        refine WC.draw mixed [1, 5] [[], [0], [], [], [2, 3], [0, 1, 2, 3, 4], [0, 1, 2, 3, 4, 5]] [0, 2, 3, 4, 1, 5, 6] (by kernel_rfl) ?_
        have H := H.drew
        refine k_rd rfl rfl (RS.of rfl rfl (x_loadF (vs := [_, _, _, _, _]) Try.underlying33 rfl ty33 rfl rfl (H.cellsL 1 rfl rfl))) ?_
        refine k_rd rfl rfl (RS.of rfl rfl (x_move h3)) ?_
        refine k_rd rfl rfl (RS.of rfl rfl (x_move h5)) ?_
        refine k_rd rfl rfl (RS.of rfl rfl (x_sliceFromA (i := k) Try.underlying28 ty33 rfl rfl (by omega) (by omega))) ?_
        refine k_st rfl rfl rfl (s_build1A Try.underlying28 ty33 rfl (by decide) (by decide) (by conv => lhs; whnf) rfl H fun b42 w H => ⟨⟨RS.of rfl rfl (x_sliceFromA (i := k) Try.underlying28 ty33 rfl rfl (by omega) (by omega)), ⟨RS.of rfl rfl (x_move h5), ⟨RS.of rfl rfl (x_move h3), ⟨trivial, trivial⟩⟩⟩⟩, ?_⟩)
        refine k_st rfl rfl rfl (s_append Try.underlying28 ty33 rfl (by decide) (by decide) rfl 0 rfl rfl rfl (RdC.fromA (H.sl 5 rfl) k hk hcapo) (one_dropE hone) (by omega) H (fun v46 w H => ⟨⟨trivial, ⟨trivial, ⟨trivial, ⟨trivial, trivial⟩⟩⟩⟩, ?_⟩))
        obtain ⟨a46, c46, rfl⟩ := (H.sl 0 rfl).shape
        refine k_rd rfl rfl (RS.of rfl rfl (x_assign (by conv => lhs; whnf))) ?_
        show _
        refine WC.region ?_
        refine l_st rfl (s_build0 Try.underlying28 ty33 H fun b47 w H => ?_)
        refine l_rd rfl rfl (x_move h3) ?_
        refine l_rd rfl rfl (x_move h5) ?_
        refine l_rd rfl rfl (x_sliceToN (i := k) Try.underlying28 ty33 rfl rfl (by omega)) ?_
        refine l_st rfl (s_append Try.underlying28 ty33 rfl (by decide) (by decide) rfl 0 rfl rfl rfl (RdC.pre (H.sl 6 rfl) k co hk) (one_takeE hone) (by omega) H (fun v51 w H => ?_))
        obtain ⟨a51, c51, rfl⟩ := (H.sl 0 rfl).shape
        refine l_rd rfl rfl (x_move (by conv => lhs; whnf)) ?_
        refine l_st rfl (s_append Try.underlying28 ty33 rfl (by decide) (by decide) rfl 0 rfl rfl rfl (H.sl 1 rfl) (one_consE (e := ⟨q1, q2, q3, q4, .slice a39 x.props.length c39⟩) rfl hone) (by omega) H (fun v53 w H => ?_))
        obtain ⟨a53, c53, rfl⟩ := (H.sl 0 rfl).shape
        refine l_rd rfl rfl (x_assign (by conv => lhs; whnf)) ?_
        refine WL.nil ?_
        refine WC.region ?_
        refine l_rd rfl rfl (x_move h4) ?_
        refine l_rd rfl rfl (x_addN (a := i) (b := 1) rfl rfl (by omega)) ?_
        refine l_rd rfl rfl (x_assign (by conv => lhs; whnf)) ?_
        refine WL.nil ?_
        have H := ow_ins (k := k) (e := ⟨q1, q2, q3, q4, .slice a39 x.props.length c39⟩) (x := x) hE.1 (Hd.arrT [_, _, _, _, _, _, _, _] [2, 7, 4, 5, 0] (by decide) rfl H)
        have H := Hd.arrT [_, _, _, _] [1, 2, 3, 0] (by decide) rfl H
        have hle := ins_len2 hk (ys := ys) (x := x)
        have hcs := ins_flat (es := es2) (e := ⟨q1, q2, q3, q4, .slice a39 x.props.length c39⟩) (k := k)
        refine ⟨rfl, xs.length - (i + 1), by omega, i + 1, _, es2.take k ++ ⟨q1, q2, q3, q4, .slice a39 x.props.length c39⟩ :: es2.drop k, ys.take k ++ x :: ys.drop k, rfl, by omega, hE.ins k hex, by rw [take_snoc hxi]; exact ins_perm hP, ins_pw hW hk hgt hno, rfl, rfl, h0, ?_⟩
        rw [hle, hcs]; exact H
    ·
      have hno : ∀ y, 0 < k → ys[k - 1]? = some y → ¬ lt x y := fun y h => by omega
      refine k_rd rfl rfl (RS.of rfl rfl (x_move (by conv => lhs; whnf))) ?_
      refine k_rd rfl rfl (RS.no rfl (wantN rfl rfl rfl)) ?_
      refine k_rd rfl rfl (RS.no rfl (wantN rfl rfl rfl)) ?_
      refine k_rd rfl rfl (RS.no rfl (wantN rfl rfl rfl)) ?_
      refine k_rd rfl rfl (RS.no rfl (wantN rfl rfl rfl)) ?_
      refine k_rd rfl rfl (RS.no rfl (wantN rfl rfl rfl)) ?_
      refine k_rd rfl rfl (RS.no rfl (wantN rfl rfl rfl)) ?_
      refine k_rd rfl rfl (RS.no rfl (wantN rfl rfl rfl)) ?_
      refine k_rd rfl rfl (RS.no rfl (wantN rfl rfl rfl)) ?_
      refine k_rd rfl rfl (RS.no rfl (wantN rfl rfl rfl)) ?_
      refine k_un rfl rfl (wantN rfl rfl rfl) (⟨trivial, ⟨trivial, ⟨trivial, ⟨trivial, ⟨trivial, ⟨trivial, ⟨trivial, ⟨trivial, ⟨trivial, ⟨trivial, ⟨trivial, ⟨trivial, trivial⟩⟩⟩⟩⟩⟩⟩⟩⟩⟩⟩⟩) ?_
      refine k_rd rfl rfl (RS.of rfl rfl (x_pick0 rfl ev_c)) ?_
      show _
      refine WC.cond0 rfl ?_
      refine WC.exit ?_
      refine WC.seq ?_
      obtain ⟨be, oe, hab, -⟩ := (show RdS _ _ 5 edC es from edl hE0 (H.sl 0 rfl)).el edC_len hei
      first | subst hab | skip
      have hone := ow_one H 3 rfl hE.1
      refine WC.region ?_
      refine l_rd rfl rfl (x_move h0) ?_
      refine l_rd rfl rfl (x_move h4) ?_
      refine l_rd rfl rfl (x_indexAddr Try.underlying28 ty33 rfl rfl (by omega) (by omega)) ?_
      refine l_rd rfl rfl (x_loadF (vs := [_, _, _, _, _]) Try.underlying33 rfl ty33 rfl rfl (sub_row 0 (RdS.at edC_len (show RdS _ _ 5 edC es from edl hE0 (H.sl 0 rfl)) hei) rfl)) ?_
      refine l_st rfl (s_alloc ty33 H fun b6 w H => ?_)
      refine l_no (s_stA 0 rfl ty33 rfl (by conv => lhs; whnf) rfl rfl rfl H fun w H => ?_)
      refine WL.nil ?_
      refine WC.seq ?_
      refine WC.region ?_
      refine l_st rfl (s_build0 Try.underlying31 ty86 H fun b36 w H => ?_)
      refine l_rd rfl rfl (x_fieldAddr Try.underlying33 rfl rfl ty31 (by decide) rfl) ?_
      refine l_rd rfl rfl (x_load Try.underlying31 rfl rfl (H.cellL 1 rfl rfl)) ?_
      refine l_st rfl (s_append Try.underlying31 ty86 rfl (by decide) (by decide) rfl 0 rfl rfl rfl (ow_rdi H 3 rfl hei hxi) (prC_one _) (by omega) H (fun v39 w H => ?_))
      obtain ⟨a39, c39, rfl⟩ := (H.sl 0 rfl).shape
      rw [Nat.zero_add x.props.length] at H ⊢
      refine l_rd rfl rfl (x_fieldAddr Try.underlying33 rfl rfl ty31 (by decide) rfl) ?_
      refine l_no (s_st 1 rfl ty31 rfl (by conv => lhs; whnf) rfl rfl H fun w H => ?_)
      refine WL.nil ?_
      refine WC.seq ?_
      refine WC.draw mixed [1, 5] [[], [0], [], [], [2, 3], [0, 1, 2, 3, 4], [0, 1, 2, 3, 4, 5]] [0, 2, 3, 4, 1, 5, 6] (by kernel_rfl) ?_
      have H := H.drew
      refine k_rd rfl rfl (RS.of rfl rfl (x_loadF (vs := [_, _, _, _, _]) Try.underlying33 rfl ty33 rfl rfl (H.cellsL 1 rfl rfl))) ?_
      refine k_rd rfl rfl (RS.of rfl rfl (x_move h3)) ?_
      refine k_rd rfl rfl (RS.of rfl rfl (x_move h5)) ?_
      refine k_rd rfl rfl (RS.of rfl rfl (x_sliceFromA (i := k) Try.underlying28 ty33 rfl rfl (by omega) (by omega))) ?_
      refine k_st rfl rfl rfl (s_build1A Try.underlying28 ty33 rfl (by decide) (by decide) (by conv => lhs; whnf) rfl H fun b42 w H => ⟨⟨RS.of rfl rfl (x_sliceFromA (i := k) Try.underlying28 ty33 rfl rfl (by omega) (by omega)), ⟨RS.of rfl rfl (x_move h5), ⟨RS.of rfl rfl (x_move h3), ⟨trivial, trivial⟩⟩⟩⟩, ?_⟩)
      refine k_st rfl rfl rfl (s_append Try.underlying28 ty33 rfl (by decide) (by decide) rfl 0 rfl rfl rfl (RdC.fromA (H.sl 5 rfl) k hk hcapo) (one_dropE hone) (by omega) H (fun v46 w H => ⟨⟨trivial, ⟨trivial, ⟨trivial, ⟨trivial, trivial⟩⟩⟩⟩, ?_⟩))
      obtain ⟨a46, c46, rfl⟩ := (H.sl 0 rfl).shape
      refine k_rd rfl rfl (RS.of rfl rfl (x_assign (by conv => lhs; whnf))) ?_
      show _
      refine WC.region ?_
      refine l_st rfl (s_build0 Try.underlying28 ty33 H fun b47 w H => ?_)
      refine l_rd rfl rfl (x_move h3) ?_
      refine l_rd rfl rfl (x_move h5) ?_
      refine l_rd rfl rfl (x_sliceToN (i := k) Try.underlying28 ty33 rfl rfl (by omega)) ?_
      refine l_st rfl (s_append Try.underlying28 ty33 rfl (by decide) (by decide) rfl 0 rfl rfl rfl (RdC.pre (H.sl 6 rfl) k co hk) (one_takeE hone) (by omega) H (fun v51 w H => ?_))
      obtain ⟨a51, c51, rfl⟩ := (H.sl 0 rfl).shape
      refine l_rd rfl rfl (x_move (by conv => lhs; whnf)) ?_
      refine l_st rfl (s_append Try.underlying28 ty33 rfl (by decide) (by decide) rfl 0 rfl rfl rfl (H.sl 1 rfl) (one_consE (e := ⟨q1, q2, q3, q4, .slice a39 x.props.length c39⟩) rfl hone) (by omega) H (fun v53 w H => ?_))
      obtain ⟨a53, c53, rfl⟩ := (H.sl 0 rfl).shape
      refine l_rd rfl rfl (x_assign (by conv => lhs; whnf)) ?_
      refine WL.nil ?_
      refine WC.region ?_
      refine l_rd rfl rfl (x_move h4) ?_
      refine l_rd rfl rfl (x_addN (a := i) (b := 1) rfl rfl (by omega)) ?_
      refine l_rd rfl rfl (x_assign (by conv => lhs; whnf)) ?_
      refine WL.nil ?_
      have H := ow_ins (k := k) (e := ⟨q1, q2, q3, q4, .slice a39 x.props.length c39⟩) (x := x) hE.1 (Hd.arrT [_, _, _, _, _, _, _, _] [2, 7, 4, 5, 0] (by decide) rfl H)
      have H := Hd.arrT [_, _, _, _] [1, 2, 3, 0] (by decide) rfl H
      have hle := ins_len2 hk (ys := ys) (x := x)
      have hcs := ins_flat (es := es2) (e := ⟨q1, q2, q3, q4, .slice a39 x.props.length c39⟩) (k := k)
      refine ⟨rfl, xs.length - (i + 1), by omega, i + 1, _, es2.take k ++ ⟨q1, q2, q3, q4, .slice a39 x.props.length c39⟩ :: es2.drop k, ys.take k ++ x :: ys.drop k, rfl, by omega, hE.ins k hex, by rw [take_snoc hxi]; exact ins_perm hP, ins_pw hW hk hgt hno, rfl, rfl, h0, ?_⟩
      rw [hle, hcs]; exact H
  ·
    refine WL.nil ?_
    refine WC.cond0 rfl ?_
    refine WC.exit ?_
    refine WC.seq ?_
    refine WC.region ?_
    refine l_rd rfl rfl (x_move h3) ?_
    refine l_rd rfl rfl (x_assign (by conv => lhs; whnf)) ?_
    refine WL.nil ?_
    refine WC.ret ?_
    refine atRet ?_
    exact RetM.one rfl (by (conv => lhs; whnf); try rfl) (⟨es2, ys, hE, by rw [List.take_of_length_le (by omega)] at hP; exact hP, hW, Hd.arrT [_, _, _, _] [2, 3] (by decide) rfl H⟩)

end Go.Proofs.Ytahdodijpmkddaa
set_option linter.unusedVariables false
set_option linter.unusedSimpArgs false
namespace Go.Proofs.Ytahdodijpmkddaa
open Go Go.RowKit KE Go.Proofs
theorem cal35 : Cal Try.prog 35 := ⟨_, Try.func35, rfl, by decide⟩
theorem cal36 : Cal Try.prog 36 := ⟨_, Try.func36, rfl, by decide⟩
theorem cal47 : Cal Try.prog 47 := ⟨_, Try.func47, rfl, by decide⟩
theorem cal48 : Cal Try.prog 48 := ⟨_, Try.func48, rfl, by decide⟩

def RefP (g : Sub) (R : Nat) (rs : List Eg) : Hp := fun m => ∃ q : Value × List Ed, (Fx g (fun w => RdS w q.1 5 edC q.2) ∧ LR g q.2 rs ∧ rs.length ≤ 1000 ∧ ∀ x ∈ rs, x.props.length ≤ 1000) ∧ pt R (.cells #[q.1] 30 (0, 0)) m
section
variable {s : Sy} {w : World} {L : List Hp} {g : Sub} {R : Nat} {rs : List Eg}
theorem RefP.opn (H : Hd s w (RefP g R rs :: L)) : ∃ v es, Fx g (fun w => RdS w v 5 edC es) ∧ LR g es rs ∧ rs.length ≤ 1000 ∧ (∀ x ∈ rs, x.props.length ≤ 1000) ∧ Hd s w (pt R (.cells #[v] 30 (0, 0)) :: L) := by
  obtain ⟨⟨v, es⟩, ⟨h1, h2, h3, h4⟩, H⟩ := Hd.opn H (fun h hh => hh)
  exact ⟨v, es, h1, h2, h3, h4, H⟩
theorem RefP.mk {v : Value} {es : List Ed} (h1 : Fx g (fun w => RdS w v 5 edC es)) (h2 : LR g es rs) (h3 : rs.length ≤ 1000) (h4 : ∀ x ∈ rs, x.props.length ≤ 1000) (H : Hd s w (pt R (.cells #[v] 30 (0, 0)) :: L)) : Hd s w (RefP g R rs :: L) :=
  H.weak fun h hh => ⟨(v, es), ⟨h1, h2, h3, h4⟩, hh⟩
theorem RefP.mono {g' : Sub} (k : sle g g') : ∀ h, RefP g R rs h → RefP g' R rs h := fun h ⟨q, ⟨h1, h2, h3⟩, hh⟩ => ⟨q, ⟨h1.mono k, h2.mono k, h3⟩, hh⟩
theorem BufP.monoH {B : Nat} {V : List Eg} {g' : Sub} (k : sle g g') : ∀ h, BufP g B V h → BufP g' B V h := fun h ⟨q, hI, hh⟩ => ⟨q, hI.mono k, hh⟩
end
theorem ref_edls {g : Sub} {v : Value} {es : List Ed} {rs : List Eg} (h1 : Fx g (fun w => RdS w v 5 edC es)) (h2 : LR g es rs) : Fx g (fun w => EdLs w v es rs) := fun w hw => ⟨h1 w hw, h2.len, fun i e x a b => h2.rd hw i e x a b⟩
theorem like_all {g : Sub} {es : List Ed} {rs : List Eg} {f : Ed} {x : Eg} (hf : kk f = kE x) (h : LR g es rs) : (∃ e ∈ es, cmpE e f = 0) ↔ ∃ y ∈ rs, like y x := by
  have e1 : (∃ e ∈ es, cmpE e f = 0) ↔ ∃ k ∈ es.map kk, cmpE k (kE x) = 0 := by
    rw [← hf]
    exact ⟨fun ⟨e, he, hc⟩ => ⟨kk e, List.mem_map_of_mem he, hc⟩, fun ⟨k, hk, hc⟩ => by
      obtain ⟨e, he, rfl⟩ := List.mem_map.1 hk
      exact ⟨e, he, hc⟩⟩
  rw [e1, h.kks]
  exact ⟨fun ⟨k, hk, hc⟩ => by
    obtain ⟨y, hy, rfl⟩ := List.mem_map.1 hk
    exact ⟨y, hy, like_cmp.1 hc⟩, fun ⟨y, hy, hl⟩ => ⟨kE y, List.mem_map_of_mem hy, like_cmp.2 hl⟩⟩
theorem len_snoc0 {α : Type} {X : List α} {y : α} : (X ++ [y]).length = 0 + X.length + 1 := by simp
theorem LR.snoc {g : Sub} {e : Ed} {x : Eg} : ∀ {es : List Ed} {xs : List Eg}, LR g es xs → ER g e x → LR g (es ++ [e]) (xs ++ [x])
  | [], [], _, h => ⟨h, trivial⟩
  | f :: es, y :: xs, h, k => ⟨h.1, LR.snoc h.2 k⟩
  | [], _ :: _, h, _ => h.elim
  | _ :: _, [], h, _ => h.elim
noncomputable def putD (rs : List Eg) (x : Eg) : List Eg := if chk x.src x.dst x.lab x.time x.props = 0 ∧ ¬ ∃ y ∈ rs, like y x then rs ++ [x] else rs
theorem c24 {s : Sy} {L : List Hp} {g : Sub} {R : Nat} {rs : List Eg} (w : World) (H : Hd s w (RefP g R rs :: fz g :: L)) : CC Try.prog 24 [.pointer (some ⟨R, 0, none⟩)].toArray w (fun r w' => ∃ es ys, EdFs es ys ∧ ys.Perm rs ∧ ys.Pairwise (fun a b => ¬ lt b a) ∧ Hd s w' (Sl r 33 5 ys.length (es.flatMap edC) :: ow es ys :: RefP g R rs :: fz g :: L)) := by
  obtain ⟨v, es, hF, hL, hlen, hpl, H⟩ := RefP.opn H
  obtain ⟨a, c, rfl⟩ := (hF.at H 1 rfl).shape
  have hel := hL.len
  refine CC.of (N := 9) Try.func24 rfl rfl rfl ?_
  refine WC.seq ?_
  refine WC.region ?_
  refine l_rd rfl rfl (x_assign ev_c) ?_
  refine WL.nil ?_
  refine WC.seq ?_
  refine WC.region ?_
  refine l_rd rfl rfl (x_move (by conv => lhs; whnf)) ?_
  refine l_rd rfl rfl (x_nilCheck rfl) ?_
  refine l_rd rfl rfl (x_fieldAddr Try.underlying30 rfl rfl ty28 (by decide) rfl) ?_
  refine l_rd rfl rfl (x_load Try.underlying28 rfl rfl (H.cellL 0 rfl rfl)) ?_
  refine l_st rfl (s_callL cal48 (c48 _ H (fun w A h => (ref_edls hF hL).in h (List.mem_append_right _ ((List.mem_cons_of_mem _ List.mem_cons_self)))) hlen hpl) ?_)
  rintro v7 w ⟨es2, hE2, H⟩
  refine l_st rfl (s_callL cal47 (c47 _ H hE2 hlen hpl) ?_)
  rintro v8 w ⟨es3, ys, hE3, hP3, hW3, H⟩
  refine l_rd rfl rfl (x_assign (by conv => lhs; whnf)) ?_
  refine WL.nil ?_
  refine WC.ret ?_
  refine atRet ?_
  exact RetM.one rfl (by (conv => lhs; whnf); try rfl) (⟨es3, ys, hE3, hP3, hW3, Hd.arrT [_, _, _] [1, 2, 0] (by decide) rfl (RefP.mk hF hL hlen hpl (Hd.arrT [_, _, _] [2, 0, 1] (by decide) rfl H))⟩)

theorem c15 {s : Sy} {L : List Hp} {g : Sub} {R : Nat} {rs : List Eg} {x : Eg} {fv : Value} (w : World) (H : Hd s w (RefP g R rs :: fz g :: L)) (hr : ∀ w (A : List Hp), Hd s w (A ++ fz g :: L) → RdS w fv 4 prC x.props) (hsz : ∀ p ∈ x.props, p.key.size ≤ 140737488355328 ∧ p.text.size ≤ 140737488355328) (hs1 : x.src.size ≤ 140737488355328) (hs2 : x.dst.size ≤ 140737488355328) (hs3 : x.lab.size ≤ 140737488355328) (hb : x.props.length ≤ 1000) (hl : rs.length < 1000) : CC Try.prog 15 [.pointer (some ⟨R, 0, none⟩), .agg (edC ⟨x.src, x.dst, x.lab, x.time, fv⟩).toArray].toArray w (fun r w' => ∃ g2, sle g g2 ∧ r = I (putR rs x) ∧ Hd s w' (RefP g2 R (putD rs x) :: fz g2 :: L)) := by
  obtain ⟨v, es, hF, hL, hlen, hpl, H⟩ := RefP.opn H
  obtain ⟨a, c, rfl⟩ := (hF.at H 1 rfl).shape
  have hel := hL.len
  refine CC.of (N := 29) Try.func15 rfl rfl rfl ?_
  refine WC.seq ?_
  refine WC.region ?_
  refine l_st rfl (s_box (by conv => lhs; whnf) H fun b3 w H => ?_)
  refine l_rd rfl rfl (x_assign ev_c) ?_
  refine WL.nil ?_
  refine WC.seq ?_
  refine WC.region ?_
  refine l_rd rfl rfl (x_loadF (vs := [_, _, _, _, _]) Try.underlying33 rfl ty33 rfl rfl (H.cellsL 0 rfl rfl)) ?_
  refine l_st rfl (s_callL cal35 (c35 (e := ⟨x.src, x.dst, x.lab, x.time, fv⟩) (xs := x.props) _ (hr _ [_, _] H) hsz hs1 hs2 hs3) ?_)
  rintro _ w ⟨rfl, e1⟩
  have H := H.ext e1
  refine l_rd rfl rfl (x_assign (by conv => lhs; whnf)) ?_
  refine WL.nil ?_
  refine WC.seq ?_
  refine WC.seq ?_
  refine WC.region ?_
  refine l_rd rfl rfl (x_move (by conv => lhs; whnf)) ?_
  refine l_rdD rfl rfl (x_neq rfl rfl) (fun h10 => ?_) (fun h10 => ?_)
  ·
    refine WL.nil ?_
    refine WC.cond1 rfl ?_
    refine WC.seq ?_
    refine WC.region ?_
    refine l_rd rfl rfl (x_move (by conv => lhs; whnf)) ?_
    refine l_rd rfl rfl (x_assign (by conv => lhs; whnf)) ?_
    refine WL.nil ?_
    refine WC.ret ?_
    refine atRet ?_
    exact RetM.one rfl (by (conv => lhs; whnf); try rfl) (⟨g, sle.refl g, by rw [putR, if_pos h10], by rw [putD, if_neg (fun q => h10 q.1)]; exact RefP.mk hF hL hlen hpl (Hd.arrT [_, _, _] [1, 2] (by decide) rfl H)⟩)
  ·
    refine WL.nil ?_
    refine WC.cond0 rfl ?_
    refine WC.skip ?_
    refine WC.seq ?_
    refine WC.seq ?_
    have hB := H.obj 1 rfl
    have hrd := hF.at H 2 rfl
    by_cases hlk : ∃ y ∈ rs, like y x
    ·
      refine WC.region ?_
      refine l_rd rfl rfl (x_move (by conv => lhs; whnf)) ?_
      refine l_rd rfl rfl (x_loadF (vs := [_, _, _, _, _]) Try.underlying33 rfl ty33 rfl rfl (H.cellsL 0 rfl rfl)) ?_
      refine l_st rfl (s_callL cal36 (c36 (f := ⟨x.src, x.dst, x.lab, x.time, fv⟩) _ hB hrd) ?_)
      rintro r w ⟨hr1, e1⟩
      have H := H.ext e1
      obtain rfl : r = .bool true := hr1.trans (by rw [decide_eq_true ((like_all rfl hL).2 hlk)])
      refine WL.nil ?_
      refine WC.cond1 rfl ?_
      refine WC.seq ?_
      refine WC.region ?_
      refine l_rd rfl rfl (x_assign ev_c) ?_
      refine WL.nil ?_
      refine WC.ret ?_
      refine atRet ?_
      exact RetM.one rfl (by (conv => lhs; whnf); try rfl) (⟨g, sle.refl g, by rw [putR, if_neg h10, if_pos hlk], by rw [putD, if_neg (fun q => q.2 hlk)]; exact RefP.mk hF hL hlen hpl (Hd.arrT [_, _, _] [1, 2] (by decide) rfl H)⟩)
    ·
      refine WC.region ?_
      refine l_rd rfl rfl (x_move (by conv => lhs; whnf)) ?_
      refine l_rd rfl rfl (x_loadF (vs := [_, _, _, _, _]) Try.underlying33 rfl ty33 rfl rfl (H.cellsL 0 rfl rfl)) ?_
      refine l_st rfl (s_callL cal36 (c36 (f := ⟨x.src, x.dst, x.lab, x.time, fv⟩) _ hB hrd) ?_)
      rintro r w ⟨hr1, e1⟩
      have H := H.ext e1
      obtain rfl : r = .bool false := hr1.trans (by rw [decide_eq_false (fun h => hlk ((like_all rfl hL).1 h))])
      refine WL.nil ?_
      refine WC.cond0 rfl ?_
      refine WC.skip ?_
      refine WC.seq ?_
      refine WC.region ?_
      refine l_rd rfl rfl (x_loadF (vs := [_, _, _, _, _]) Try.underlying33 rfl ty33 rfl rfl (H.cellsL 0 rfl rfl)) ?_
      refine l_st rfl (s_callL cal37 (c37 (e := ⟨x.src, x.dst, x.lab, x.time, fv⟩) _ H (fun w A h => hr w (A ++ [_, _]) (by rw [List.append_assoc]; exact h)) hb) ?_)
      rintro _ w ⟨pv, rfl, H⟩
      obtain ⟨pa, pc, rfl⟩ := (H.sl 0 rfl).shape
      refine l_st rfl (s_alloc ty33 H fun b6 w H => ?_)
      refine l_no (s_stA 0 rfl ty33 rfl (by conv => lhs; whnf) rfl rfl rfl H fun w H => ?_)
      refine WL.nil ?_
      refine WC.seq ?_
      refine WC.drawS mixed [1, 6, 8, 9, 12] [[], [], [], [2], [2, 3], [2, 3, 4], [1, 2, 3, 4, 5], [], [7], [1, 2, 3, 4, 5, 6, 7, 8], [0, 1, 2, 3, 4, 5, 6, 7, 8, 9], [0, 1, 2, 3, 4, 5, 6, 7, 8, 9, 10], [0, 1, 2, 3, 4, 5, 6, 7, 8, 9, 10, 11]] 5 [[0, 2, 3, 4, 5, 7, 1, 6, 8, 9, 10, 11, 12], [0, 2, 3, 4, 5, 7, 1, 8, 6, 9, 10, 11, 12], [0, 2, 3, 4, 5, 7, 8, 1, 6, 9, 10, 11, 12]] (by kernel_rfl) ?_
      have H := H.drew
      refine List.forall_mem_cons.2 ⟨?_, List.forall_mem_cons.2 ⟨?_, List.forall_mem_cons.2 ⟨?_, fun c h => by cases h⟩⟩⟩
      ·
        refine k_rd rfl rfl (RS.of rfl rfl (x_move (by conv => lhs; whnf))) ?_
        refine k_rd rfl rfl (RS.of rfl rfl (x_move (by conv => lhs; whnf))) ?_
        refine k_rd rfl rfl (RS.of rfl rfl (x_nilCheck rfl)) ?_
        refine k_rd rfl rfl (RS.of rfl rfl (x_fieldAddr Try.underlying30 rfl rfl ty28 (by decide) rfl)) ?_
        refine k_rd rfl rfl (RS.of rfl rfl (x_load Try.underlying28 rfl rfl (H.cellL 3 rfl rfl))) ?_
        refine k_rd rfl rfl (RS.of rfl rfl (x_loadF (vs := [_, _, _, _, _]) Try.underlying33 rfl ty33 rfl rfl (H.cellsL 0 rfl rfl))) ?_
        refine k_st rfl rfl rfl (s_build0 Try.underlying28 ty33 H fun b18 w H => ⟨⟨RS.of rfl rfl (x_loadF (vs := [_, _, _, _, _]) Try.underlying33 rfl ty33 rfl rfl (H.cellsL 1 rfl rfl)), ⟨RS.of rfl rfl (x_load Try.underlying28 rfl rfl (H.cellL 4 rfl rfl)), ⟨RS.of rfl rfl (x_fieldAddr Try.underlying30 rfl rfl ty28 (by decide) rfl), ⟨RS.of rfl rfl (x_nilCheck rfl), ⟨RS.of rfl rfl (x_move (by (conv => lhs; whnf); try rfl)), ⟨RS.of rfl rfl (x_move (by (conv => lhs; whnf); try rfl)), trivial⟩⟩⟩⟩⟩⟩, ?_⟩)
        refine k_st rfl rfl rfl (s_append Try.underlying28 ty33 rfl (by decide) (by decide) rfl 0 rfl rfl rfl (hF.at H 5 rfl) (one_flat hL.one) (by omega) H (fun v23 w H => ⟨⟨RS.of rfl rfl (x_loadF (vs := [_, _, _, _, _]) Try.underlying33 rfl ty33 rfl rfl (H.cellsL 1 rfl rfl)), ⟨trivial, ⟨trivial, ⟨trivial, ⟨trivial, ⟨RS.of rfl rfl (x_move (by (conv => lhs; whnf); try rfl)), trivial⟩⟩⟩⟩⟩⟩, ?_⟩))
        obtain ⟨a23, c23, rfl⟩ := (H.sl 0 rfl).shape
        refine k_st rfl rfl rfl (s_build1A Try.underlying28 ty33 rfl (by decide) (by decide) (by conv => lhs; whnf) rfl H fun b25 w H => ⟨⟨trivial, ⟨RS.of rfl rfl (x_load Try.underlying28 rfl rfl (H.cellL 5 rfl rfl)), ⟨RS.of rfl rfl (x_fieldAddr Try.underlying30 rfl rfl ty28 (by decide) rfl), ⟨RS.of rfl rfl (x_nilCheck rfl), ⟨RS.of rfl rfl (x_move (by (conv => lhs; whnf); try rfl)), ⟨RS.of rfl rfl (x_move (by (conv => lhs; whnf); try rfl)), trivial⟩⟩⟩⟩⟩⟩, ?_⟩)
        refine k_st rfl rfl rfl (s_append Try.underlying28 ty33 rfl (by decide) (by decide) rfl 1 rfl rfl rfl (H.sl 0 rfl) (by simp [Value.oneCell']) (by omega) H fun v26 w H => ⟨⟨trivial, ⟨trivial, ⟨trivial, ⟨trivial, ⟨trivial, ⟨RS.of rfl rfl (x_move (by (conv => lhs; whnf); try rfl)), trivial⟩⟩⟩⟩⟩⟩, ?_⟩)
        obtain ⟨a26, c26, rfl⟩ := (H.sl 1 rfl).shape
        refine k_rd rfl rfl (RS.of rfl rfl (x_nilCheck rfl)) ?_
        refine k_rd rfl rfl (RS.of rfl rfl (x_fieldAddr Try.underlying30 rfl rfl ty28 (by decide) rfl)) ?_
        refine k_no rfl rfl rfl (s_st 5 rfl ty28 rfl (by conv => lhs; whnf) rfl rfl H fun w H => ⟨⟨trivial, ⟨trivial, ⟨trivial, ⟨trivial, ⟨trivial, ⟨trivial, ⟨trivial, ⟨trivial, trivial⟩⟩⟩⟩⟩⟩⟩⟩, ?_⟩)
        show _
        refine WC.seq ?_
        refine WC.region ?_
        refine l_rd rfl rfl (x_assign ev_c) ?_
        refine WL.nil ?_
        refine WC.ret ?_
        refine atRet ?_
        obtain ⟨g1, hg1, hx1, H⟩ := Hd.freezeSl (Hd.arrT [_, _, _, _, _, _, _] [3, 6, 1, 5] (by decide) rfl H)
        obtain ⟨g2, hg2, hx2, H⟩ := Hd.freezeSl H.swp
        have hL2 := LR.snoc (hL.mono (hg1.trans hg2)) (e := ⟨x.src, x.dst, x.lab, x.time, .slice pa x.props.length pc⟩) (x := x) ⟨rfl, rfl, hx1.mono hg2⟩
        have hF2 := hx2.imp (Ψ := fun w => RdS w (.slice a26 (0 + es.length + 1) c26) 5 edC (es ++ [⟨x.src, x.dst, x.lab, x.time, .slice pa x.props.length pc⟩])) (fun w h => by unfold RdS; rw [len_snoc0, List.flatMap_append]; rw [List.nil_append] at h; exact h)
        exact RetM.one rfl (by (conv => lhs; whnf); try rfl) ⟨g2, hg1.trans hg2, by rw [putR, if_neg h10, if_neg hlk], by rw [putD, if_pos ⟨Classical.not_not.1 h10, hlk⟩]; exact RefP.mk hF2 hL2 (by rw [len_snoc]; omega) (fun y hy => by rcases List.mem_append.1 hy with h | h; exact hpl y h; rw [List.mem_singleton.1 h]; exact hb) H.swp⟩
      ·
        refine k_rd rfl rfl (RS.of rfl rfl (x_move (by conv => lhs; whnf))) ?_
        refine k_rd rfl rfl (RS.of rfl rfl (x_move (by conv => lhs; whnf))) ?_
        refine k_rd rfl rfl (RS.of rfl rfl (x_nilCheck rfl)) ?_
        refine k_rd rfl rfl (RS.of rfl rfl (x_fieldAddr Try.underlying30 rfl rfl ty28 (by decide) rfl)) ?_
        refine k_rd rfl rfl (RS.of rfl rfl (x_load Try.underlying28 rfl rfl (H.cellL 3 rfl rfl))) ?_
        refine k_rd rfl rfl (RS.of rfl rfl (x_loadF (vs := [_, _, _, _, _]) Try.underlying33 rfl ty33 rfl rfl (H.cellsL 0 rfl rfl))) ?_
        refine k_st rfl rfl rfl (s_build0 Try.underlying28 ty33 H fun b18 w H => ⟨⟨RS.of rfl rfl (x_loadF (vs := [_, _, _, _, _]) Try.underlying33 rfl ty33 rfl rfl (H.cellsL 1 rfl rfl)), ⟨RS.of rfl rfl (x_load Try.underlying28 rfl rfl (H.cellL 4 rfl rfl)), ⟨RS.of rfl rfl (x_fieldAddr Try.underlying30 rfl rfl ty28 (by decide) rfl), ⟨RS.of rfl rfl (x_nilCheck rfl), ⟨RS.of rfl rfl (x_move (by (conv => lhs; whnf); try rfl)), ⟨RS.of rfl rfl (x_move (by (conv => lhs; whnf); try rfl)), trivial⟩⟩⟩⟩⟩⟩, ?_⟩)
        refine k_st rfl rfl rfl (s_build1A Try.underlying28 ty33 rfl (by decide) (by decide) (by conv => lhs; whnf) rfl H fun b25 w H => ⟨⟨trivial, ⟨RS.of rfl rfl (x_load Try.underlying28 rfl rfl (H.cellL 5 rfl rfl)), ⟨RS.of rfl rfl (x_fieldAddr Try.underlying30 rfl rfl ty28 (by decide) rfl), ⟨RS.of rfl rfl (x_nilCheck rfl), ⟨RS.of rfl rfl (x_move (by (conv => lhs; whnf); try rfl)), ⟨RS.of rfl rfl (x_move (by (conv => lhs; whnf); try rfl)), trivial⟩⟩⟩⟩⟩⟩, ?_⟩)
        refine k_st rfl rfl rfl (s_append Try.underlying28 ty33 rfl (by decide) (by decide) rfl 1 rfl rfl rfl (hF.at H 6 rfl) (one_flat hL.one) (by omega) H (fun v23 w H => ⟨⟨RS.of rfl rfl (x_loadF (vs := [_, _, _, _, _]) Try.underlying33 rfl ty33 rfl rfl (H.cellsL 2 rfl rfl)), ⟨trivial, ⟨trivial, ⟨trivial, ⟨trivial, ⟨RS.of rfl rfl (x_move (by (conv => lhs; whnf); try rfl)), trivial⟩⟩⟩⟩⟩⟩, ?_⟩))
        obtain ⟨a23, c23, rfl⟩ := (H.sl 1 rfl).shape
        refine k_st rfl rfl rfl (s_append Try.underlying28 ty33 rfl (by decide) (by decide) rfl 1 rfl rfl rfl (H.sl 0 rfl) (by simp [Value.oneCell']) (by omega) H fun v26 w H => ⟨⟨trivial, ⟨trivial, ⟨trivial, ⟨trivial, ⟨trivial, ⟨RS.of rfl rfl (x_move (by (conv => lhs; whnf); try rfl)), trivial⟩⟩⟩⟩⟩⟩, ?_⟩)
        obtain ⟨a26, c26, rfl⟩ := (H.sl 1 rfl).shape
        refine k_rd rfl rfl (RS.of rfl rfl (x_nilCheck rfl)) ?_
        refine k_rd rfl rfl (RS.of rfl rfl (x_fieldAddr Try.underlying30 rfl rfl ty28 (by decide) rfl)) ?_
        refine k_no rfl rfl rfl (s_st 5 rfl ty28 rfl (by conv => lhs; whnf) rfl rfl H fun w H => ⟨⟨trivial, ⟨trivial, ⟨trivial, ⟨trivial, ⟨trivial, ⟨trivial, ⟨trivial, ⟨trivial, trivial⟩⟩⟩⟩⟩⟩⟩⟩, ?_⟩)
        show _
        refine WC.seq ?_
        refine WC.region ?_
        refine l_rd rfl rfl (x_assign ev_c) ?_
        refine WL.nil ?_
        refine WC.ret ?_
        refine atRet ?_
        obtain ⟨g1, hg1, hx1, H⟩ := Hd.freezeSl (Hd.arrT [_, _, _, _, _, _, _] [3, 6, 1, 5] (by decide) rfl H)
        obtain ⟨g2, hg2, hx2, H⟩ := Hd.freezeSl H.swp
        have hL2 := LR.snoc (hL.mono (hg1.trans hg2)) (e := ⟨x.src, x.dst, x.lab, x.time, .slice pa x.props.length pc⟩) (x := x) ⟨rfl, rfl, hx1.mono hg2⟩
        have hF2 := hx2.imp (Ψ := fun w => RdS w (.slice a26 (0 + es.length + 1) c26) 5 edC (es ++ [⟨x.src, x.dst, x.lab, x.time, .slice pa x.props.length pc⟩])) (fun w h => by unfold RdS; rw [len_snoc0, List.flatMap_append]; rw [List.nil_append] at h; exact h)
        exact RetM.one rfl (by (conv => lhs; whnf); try rfl) ⟨g2, hg1.trans hg2, by rw [putR, if_neg h10, if_neg hlk], by rw [putD, if_pos ⟨Classical.not_not.1 h10, hlk⟩]; exact RefP.mk hF2 hL2 (by rw [len_snoc]; omega) (fun y hy => by rcases List.mem_append.1 hy with h | h; exact hpl y h; rw [List.mem_singleton.1 h]; exact hb) H.swp⟩
      ·
        refine k_rd rfl rfl (RS.of rfl rfl (x_move (by conv => lhs; whnf))) ?_
        refine k_rd rfl rfl (RS.of rfl rfl (x_move (by conv => lhs; whnf))) ?_
        refine k_rd rfl rfl (RS.of rfl rfl (x_nilCheck rfl)) ?_
        refine k_rd rfl rfl (RS.of rfl rfl (x_fieldAddr Try.underlying30 rfl rfl ty28 (by decide) rfl)) ?_
        refine k_rd rfl rfl (RS.of rfl rfl (x_load Try.underlying28 rfl rfl (H.cellL 3 rfl rfl))) ?_
        refine k_rd rfl rfl (RS.of rfl rfl (x_loadF (vs := [_, _, _, _, _]) Try.underlying33 rfl ty33 rfl rfl (H.cellsL 0 rfl rfl))) ?_
        refine k_st rfl rfl rfl (s_build1A Try.underlying28 ty33 rfl (by decide) (by decide) (by conv => lhs; whnf) rfl H fun b25 w H => ⟨⟨trivial, ⟨RS.of rfl rfl (x_load Try.underlying28 rfl rfl (H.cellL 4 rfl rfl)), ⟨RS.of rfl rfl (x_fieldAddr Try.underlying30 rfl rfl ty28 (by decide) rfl), ⟨RS.of rfl rfl (x_nilCheck rfl), ⟨RS.of rfl rfl (x_move (by (conv => lhs; whnf); try rfl)), ⟨RS.of rfl rfl (x_move (by (conv => lhs; whnf); try rfl)), trivial⟩⟩⟩⟩⟩⟩, ?_⟩)
        refine k_st rfl rfl rfl (s_build0 Try.underlying28 ty33 H fun b18 w H => ⟨⟨RS.of rfl rfl (x_loadF (vs := [_, _, _, _, _]) Try.underlying33 rfl ty33 rfl rfl (H.cellsL 2 rfl rfl)), ⟨RS.of rfl rfl (x_load Try.underlying28 rfl rfl (H.cellL 5 rfl rfl)), ⟨RS.of rfl rfl (x_fieldAddr Try.underlying30 rfl rfl ty28 (by decide) rfl), ⟨RS.of rfl rfl (x_nilCheck rfl), ⟨RS.of rfl rfl (x_move (by (conv => lhs; whnf); try rfl)), ⟨RS.of rfl rfl (x_move (by (conv => lhs; whnf); try rfl)), trivial⟩⟩⟩⟩⟩⟩, ?_⟩)
        refine k_st rfl rfl rfl (s_append Try.underlying28 ty33 rfl (by decide) (by decide) rfl 0 rfl rfl rfl (hF.at H 6 rfl) (one_flat hL.one) (by omega) H (fun v23 w H => ⟨⟨RS.of rfl rfl (x_loadF (vs := [_, _, _, _, _]) Try.underlying33 rfl ty33 rfl rfl (H.cellsL 2 rfl rfl)), ⟨trivial, ⟨trivial, ⟨trivial, ⟨trivial, ⟨RS.of rfl rfl (x_move (by (conv => lhs; whnf); try rfl)), trivial⟩⟩⟩⟩⟩⟩, ?_⟩))
        obtain ⟨a23, c23, rfl⟩ := (H.sl 0 rfl).shape
        refine k_st rfl rfl rfl (s_append Try.underlying28 ty33 rfl (by decide) (by decide) rfl 0 rfl rfl rfl (H.sl 1 rfl) (by simp [Value.oneCell']) (by omega) H fun v26 w H => ⟨⟨trivial, ⟨trivial, ⟨trivial, ⟨trivial, ⟨trivial, ⟨RS.of rfl rfl (x_move (by (conv => lhs; whnf); try rfl)), trivial⟩⟩⟩⟩⟩⟩, ?_⟩)
        obtain ⟨a26, c26, rfl⟩ := (H.sl 0 rfl).shape
        refine k_rd rfl rfl (RS.of rfl rfl (x_nilCheck rfl)) ?_
        refine k_rd rfl rfl (RS.of rfl rfl (x_fieldAddr Try.underlying30 rfl rfl ty28 (by decide) rfl)) ?_
        refine k_no rfl rfl rfl (s_st 5 rfl ty28 rfl (by conv => lhs; whnf) rfl rfl H fun w H => ⟨⟨trivial, ⟨trivial, ⟨trivial, ⟨trivial, ⟨trivial, ⟨trivial, ⟨trivial, ⟨trivial, trivial⟩⟩⟩⟩⟩⟩⟩⟩, ?_⟩)
        show _
        refine WC.seq ?_
        refine WC.region ?_
        refine l_rd rfl rfl (x_assign ev_c) ?_
        refine WL.nil ?_
        refine WC.ret ?_
        refine atRet ?_
        obtain ⟨g1, hg1, hx1, H⟩ := Hd.freezeSl (Hd.arrT [_, _, _, _, _, _, _] [3, 6, 0, 5] (by decide) rfl H)
        obtain ⟨g2, hg2, hx2, H⟩ := Hd.freezeSl H.swp
        have hL2 := LR.snoc (hL.mono (hg1.trans hg2)) (e := ⟨x.src, x.dst, x.lab, x.time, .slice pa x.props.length pc⟩) (x := x) ⟨rfl, rfl, hx1.mono hg2⟩
        have hF2 := hx2.imp (Ψ := fun w => RdS w (.slice a26 (0 + es.length + 1) c26) 5 edC (es ++ [⟨x.src, x.dst, x.lab, x.time, .slice pa x.props.length pc⟩])) (fun w h => by unfold RdS; rw [len_snoc0, List.flatMap_append]; rw [List.nil_append] at h; exact h)
        exact RetM.one rfl (by (conv => lhs; whnf); try rfl) ⟨g2, hg1.trans hg2, by rw [putR, if_neg h10, if_neg hlk], by rw [putD, if_pos ⟨Classical.not_not.1 h10, hlk⟩]; exact RefP.mk hF2 hL2 (by rw [len_snoc]; omega) (fun y hy => by rcases List.mem_append.1 hy with h | h; exact hpl y h; rw [List.mem_singleton.1 h]; exact hb) H.swp⟩

end Go.Proofs.Ytahdodijpmkddaa
set_option linter.unusedVariables false
set_option linter.unusedSimpArgs false
namespace Go.Proofs.Ytahdodijpmkddaa
open Go Go.RowKit KE Go.Proofs
theorem cal24 : Cal Try.prog 24 := ⟨_, Try.func24, rfl, by decide⟩

def upT (ys : List Eg) (time most : Int) : List Eg := (ys.takeWhile fun x => decide (x.time ≤ time)).take most.toNat
theorem upT_take {ys : List Eg} {k : Nat} {time most : Int} (hkm : k = 0 ∨ (k : Int) ≤ most) (hall : ∀ (q : Nat) (y : Eg), q < k → ys[q]? = some y → y.time ≤ time) (hstop : k = ys.length ∨ ¬ (k : Int) < most ∨ ∃ y, ys[k]? = some y ∧ ¬ y.time ≤ time) (hk : k ≤ ys.length) : ys.take k = upT ys time most := by
  have h1 : ∀ (ys : List Eg) (k : Nat), k ≤ ys.length → (∀ (q : Nat) (y : Eg), q < k → ys[q]? = some y → y.time ≤ time) → (ys.takeWhile fun x => decide (x.time ≤ time)) = ys.take k ++ ((ys.drop k).takeWhile fun x => decide (x.time ≤ time)) := by
    intro ys
    induction ys with
    | nil => intro k _ _; simp
    | cons y ys ih =>
      intro k hk h
      cases k with
      | zero => simp
      | succ k =>
        have h0 := h 0 y (by omega) rfl
        rw [List.takeWhile_cons_of_pos (by simpa using h0), List.take_succ_cons, List.drop_succ_cons, List.cons_append]
        rw [ih k (by simpa using hk) fun q z hq hz => h (q + 1) z (by omega) (by simpa using hz)]
  unfold upT
  rw [h1 ys k hk hall]
  have hlt : (ys.take k).length = k := by rw [List.length_take]; omega
  rcases hstop with h | h | ⟨y, hy, hty⟩
  · subst h
    rw [List.drop_length, List.takeWhile_nil, List.append_nil, List.take_length]
    rcases hkm with h | h
    · rw [List.length_eq_zero_iff.1 h, List.take_nil]
    · rw [List.take_of_length_le (by omega)]
  · have hm : most.toNat = k ∨ (k = 0 ∧ most.toNat = 0) := by omega
    have hm : most.toNat = k := by omega
    rw [hm, List.take_left' hlt]
  · obtain ⟨h3, h4⟩ := List.getElem?_eq_some_iff.1 hy
    rw [List.drop_eq_getElem_cons h3, h4, List.takeWhile_cons_of_neg (by simpa using hty), List.append_nil]
    rcases hkm with h | h
    · subst h; simp
    · exact (List.take_of_length_le (by omega)).symm
theorem LR.drop {g : Sub} : ∀ {es : List Ed} {xs : List Eg} (k : Nat), LR g es xs → LR g (es.drop k) (xs.drop k)
  | es, xs, 0, h => h
  | [], [], k + 1, h => by simp; trivial
  | e :: es, x :: xs, k + 1, h => LR.drop k h.2
  | [], _ :: _, _ + 1, h => h.elim
  | _ :: _, [], _ + 1, h => h.elim
theorem LR.of {g : Sub} : ∀ {es : List Ed} {xs : List Eg}, EdFs es xs → (∀ e ∈ es, oneC e.pv = true) → (∀ (i : Nat) (e : Ed) (x : Eg), es[i]? = some e → xs[i]? = some x → Fx g (fun w => RdS w e.pv 4 prC x.props)) → LR g es xs
  | [], [], _, _, _ => trivial
  | e :: es, x :: xs, h, h1, h2 => by
    obtain ⟨a, b, c, d⟩ := h.2 0 e x rfl rfl
    refine ⟨⟨by unfold kk kE; rw [a, b, c, d], h1 e List.mem_cons_self, h2 0 e x rfl rfl⟩, LR.of ⟨by simpa using h.1, fun i f y hf hy => h.2 (i + 1) f y (by simpa using hf) (by simpa using hy)⟩ (fun f hf => h1 f (List.mem_cons_of_mem _ hf)) fun i f y hf hy => h2 (i + 1) f y (by simpa using hf) (by simpa using hy)⟩
  | [], _ :: _, h, _, _ => by have := h.1; simp at this
  | _ :: _, [], h, _, _ => by have := h.1; simp at this
theorem ow_rdh {w : World} : ∀ {es : List Ed} {xs : List Eg} {h : Sub} {i : Nat} {e : Ed} {x : Eg}, hsub h w → ow es xs h → es[i]? = some e → xs[i]? = some x → RdS w e.pv 4 prC x.props
  | e :: es, x :: xs, h, i, e', x', hs, ho, h1, h2 => by
    obtain ⟨a, b, hd, rfl, ha, hb⟩ := (ho : star _ (ow es xs) h)
    cases i with
    | zero =>
      simp at h1 h2; subst h1; subst h2
      exact Sl.rd (fun i o k => hs i o (by simp [hor, k])) ha
    | succ i =>
      refine ow_rdh (fun j o k => hs j o ?_) hb (by simpa using h1) (by simpa using h2)
      rcases hd j with q | q
      · simp [hor, q, k]
      · rw [q] at k; cases k
  | [], _, h, i, e', x', hs, ho, h1, h2 => by simp at h1
  | _ :: _, [], h, i, e', x', hs, ho, h1, h2 => by simp at h2
theorem ow_freeze {s : Sy} {w : World} {L : List Hp} {g : Sub} {es : List Ed} {xs : List Eg} (hE : EdFs es xs) (H : Hd s w (ow es xs :: fz g :: L)) : ∃ g', sle g g' ∧ LR g' es xs ∧ Hd s w (fz g' :: L) := by
  have hone := ow_one H 0 rfl hE.1
  obtain ⟨g', h1, h2, H⟩ := Hd.freeze (Φ := fun w => ∀ (i : Nat) (e : Ed) (x : Eg), es[i]? = some e → xs[i]? = some x → RdS w e.pv 4 prC x.props) H fun w h hs ho i e x a b => ow_rdh hs ho a b
  exact ⟨g', h1, LR.of hE hone fun i e x a b w hw => h2 w hw i e x a b, H⟩
theorem edl_take {g : Sub} {a : Option Addr} {c k : Nat} {es : List Ed} {ys : List Eg} (hF : Fx g (fun w => RdC w (.slice a ys.length c) 5 ys.length (es.flatMap edC))) (hL : LR g es ys) (hk : k ≤ ys.length) : Fx g (fun w => EdL w (.slice a k c) (ys.take k)) := fun w hw => by
  have h1 := (hF w hw).pre k c hk
  have hl := hL.len
  have e1 : (es.take k).length = k := by rw [List.length_take]; omega
  refine ⟨es.take k, ?_, by simp [hl], fun i e x he hx => ?_⟩
  · unfold RdS
    rw [e1, ← flat_take edC_len]; exact h1
  · rw [List.getElem?_take] at he hx
    split at he
    · rename_i hik
      rw [if_pos hik] at hx
      exact hL.rd hw i e x he hx
    · cases he
theorem ref_drop {g : Sub} {a : Option Addr} {c k : Nat} {es : List Ed} {ys : List Eg} (hF : Fx g (fun w => RdC w (.slice a ys.length c) 5 ys.length (es.flatMap edC))) (hL : LR g es ys) (hk : k ≤ ys.length) (hc : ys.length ≤ c) : Fx g (fun w => RdS w (.slice (if c = k then a else a.map (·.add (k * 5))) (ys.length - k) (c - k)) 5 edC (es.drop k)) := fun w hw => by
  have h1 := (hF w hw).fromA k hk hc
  have hl := hL.len
  unfold RdS
  rw [← flat_drop edC_len, List.length_drop, hl]; exact h1
theorem c7 {x n : Int} (w : World) (hn : 1 ≤ n ∧ n ≤ 100) : CC Try.prog 7 [I x, I n].toArray w (fun r w' => r = I (x % n) ∧ Ext w w') := by
  obtain ⟨w0, e0⟩ : ∃ w0, w0 = w := ⟨w, rfl⟩
  subst e0
  have H := Hd.start w0
  refine CC.of (N := 16) Try.func7 rfl rfl rfl ?_
  refine WC.seq ?_
  refine WC.region ?_
  refine l_rd rfl rfl (x_assign ev_c) ?_
  refine WL.nil ?_
  refine WC.seq ?_
  refine WC.seq ?_
  refine WC.region ?_
  refine l_rd rfl rfl (x_move (by conv => lhs; whnf)) ?_
  refine l_rdD rfl rfl (x_lss rfl rfl) (fun h6 => ?_) (fun h6 => ?_)
  ·
    exfalso; omega
  ·
    refine WL.nil ?_
    refine WC.cond0 rfl ?_
    refine WC.skip ?_
    refine WC.seq ?_
    refine WC.region ?_
    refine l_rd rfl rfl (x_move (by conv => lhs; whnf)) ?_
    refine l_rd rfl rfl (x_move (by conv => lhs; whnf)) ?_
    obtain ⟨t1, t2, t3, t4⟩ := tmod_law (a := x) (b := n) (by omega)
    refine l_rd rfl rfl (x_remT rfl rfl (by omega)) ?_
    refine l_rd rfl rfl (x_assign (by conv => lhs; whnf)) ?_
    refine WL.nil ?_
    refine WC.seq ?_
    refine WC.seq ?_
    refine WC.region ?_
    refine l_rd rfl rfl (x_move (by conv => lhs; whnf)) ?_
    refine l_rdD rfl rfl (x_lss rfl rfl) (fun h11 => ?_) (fun h11 => ?_)
    ·
      refine WL.nil ?_
      refine WC.cond1 rfl ?_
      refine WC.region ?_
      refine l_rd rfl rfl (x_move (by conv => lhs; whnf)) ?_
      refine l_rd rfl rfl (x_move (by conv => lhs; whnf)) ?_
      refine l_rd rfl rfl (x_add rfl rfl (by omega) (by omega)) ?_
      refine l_rd rfl rfl (x_assign (by conv => lhs; whnf)) ?_
      refine WL.nil ?_
      refine WC.seq ?_
      refine WC.region ?_
      refine l_rd rfl rfl (x_move (by conv => lhs; whnf)) ?_
      refine l_rd rfl rfl (x_assign (by conv => lhs; whnf)) ?_
      refine WL.nil ?_
      refine WC.ret ?_
      refine atRet ?_
      exact RetM.one rfl (by (conv => lhs; whnf); try rfl) ⟨by first | rw [t3 h11] | rw [t4 h11], H.below 0 rfl⟩
    ·
      refine WL.nil ?_
      refine WC.cond0 rfl ?_
      refine WC.skip ?_
      refine WC.seq ?_
      refine WC.region ?_
      refine l_rd rfl rfl (x_move (by conv => lhs; whnf)) ?_
      refine l_rd rfl rfl (x_assign (by conv => lhs; whnf)) ?_
      refine WL.nil ?_
      refine WC.ret ?_
      refine atRet ?_
      exact RetM.one rfl (by (conv => lhs; whnf); try rfl) ⟨by first | rw [t3 h11] | rw [t4 h11], H.below 0 rfl⟩

theorem c10 {s : Sy} {L : List Hp} {g : Sub} {R : Nat} {rs : List Eg} {time most : Int} (w : World) (H : Hd s w (RefP g R rs :: fz g :: L)) : CC Try.prog 10 [.pointer (some ⟨R, 0, none⟩), I time, I most].toArray w (fun r w' => ∃ g2 ys, sle g g2 ∧ ys.Perm rs ∧ ys.Pairwise (fun a b => ¬ lt b a) ∧ Fx g2 (fun w => EdL w r (upT ys time most)) ∧ Hd s w' (RefP g2 R (ys.drop (upT ys time most).length) :: fz g2 :: L)) := by
  refine CC.of (N := 40) Try.func10 rfl rfl rfl ?_
  refine WC.seq ?_
  refine WC.region ?_
  refine l_rd rfl rfl (x_assign ev_c) ?_
  refine WL.nil ?_
  refine WC.seq ?_
  refine WC.region ?_
  refine l_rd rfl rfl (x_move (by conv => lhs; whnf)) ?_
  refine l_st rfl (s_callL cal24 (c24 _ H) ?_)
  rintro v10 w ⟨es, ys, hE, hP, hW, H⟩
  obtain ⟨a, c, rfl⟩ := (H.sl 0 rfl).shape
  have hcap := (Hd.cap H 0 rfl).1
  have hyl : ys.length ≤ 140737488355328 := (H.sl 0 rfl).1.2
  refine l_rd rfl rfl (x_assign (by conv => lhs; whnf)) ?_
  refine WL.nil ?_
  refine WC.seq ?_
  refine WC.region ?_
  refine l_rd rfl rfl (x_assign ev_c) ?_
  refine WL.nil ?_
  refine WC.seq ?_
  refine WC.block ?_
  refine WC.loopN (I := fun n ρ w => ∃ k : Nat, n = ys.length - k ∧ k ≤ ys.length ∧ (k = 0 ∨ (k : Int) ≤ most) ∧ (∀ (q : Nat) (y : Eg), q < k → ys[q]? = some y → y.time ≤ time) ∧ ρ 8 = I k ∧ ρ 7 = .slice a ys.length c ∧ ρ 0 = .pointer (some ⟨R, 0, none⟩) ∧ ρ 1 = I time ∧ ρ 2 = I most ∧ Hd s w (Sl (.slice a ys.length c) 33 5 ys.length (es.flatMap edC) :: ow es ys :: RefP g R rs :: fz g :: L)) (n0 := _) (⟨0, rfl, Nat.zero_le _, .inl rfl, fun q y h => by omega, rfl, rfl, rfl, rfl, rfl, H⟩) ?_
  repeat clear H
  rintro n ρ w ⟨k, hn, hk, hkm, hall, h8, h7, h0, h1, h2, H⟩
  refine WC.seq ?_
  refine WC.seq ?_
  refine WC.region ?_
  refine l_rd rfl rfl (x_move h8) ?_
  refine l_rd rfl rfl (x_move h7) ?_
  refine l_rd rfl rfl (x_lenSlice Try.underlying28 rfl rfl) ?_
  refine l_rdD rfl rfl (x_lss rfl rfl) (fun h14 => ?_) (fun h14 => ?_)
  ·
    refine l_rd rfl rfl (x_move (by conv => lhs; whnf)) ?_
    refine l_gy (wantY rfl rfl rfl) rfl rfl (x_move h8) ?_
    refine l_gy (wantY rfl rfl rfl) rfl rfl (x_move h2) ?_
    refine l_gyD (wantY rfl rfl rfl) rfl rfl (x_lss rfl rfl) (fun h18 => ?_) (fun h18 => ?_)
    ·
      obtain ⟨e, hek⟩ := lt_get (show k < es.length by rw [hE.1]; omega)
      obtain ⟨y, hyk⟩ := lt_get (show k < ys.length by omega)
      have hey := hE.2 _ _ _ hek hyk
      obtain ⟨b1, o1, rfl, -⟩ := (show RdS _ _ 5 edC es from edl hE (H.sl 0 rfl)).el edC_len hek
      refine l_rd rfl rfl (x_pick1 rfl (by conv => lhs; whnf)) ?_
      refine l_rd rfl rfl (x_move (by conv => lhs; whnf)) ?_
      refine l_gy (wantY rfl rfl rfl) rfl rfl (x_move h7) ?_
      refine l_gy (wantY rfl rfl rfl) rfl rfl (x_move h8) ?_
      refine l_gy (wantY rfl rfl rfl) rfl rfl (x_indexAddr Try.underlying28 ty33 rfl rfl (by omega) (by omega)) ?_
      refine l_gy (wantY rfl rfl rfl) rfl rfl (x_fieldAddr Try.underlying33 rfl rfl ty3 (by decide) rfl) ?_
      refine l_gy (wantY rfl rfl rfl) rfl rfl (x_load Try.underlying3 rfl rfl ((RdS.at edC_len (show RdS _ _ 5 edC es from edl hE (H.sl 0 rfl)) hek) 3 _ rfl)) ?_
      refine l_gy (wantY rfl rfl rfl) rfl rfl (x_move h1) ?_
      refine l_gyD (wantY rfl rfl rfl) rfl rfl (x_leq rfl rfl) (fun h27 => ?_) (fun h27 => ?_)
      ·
        refine l_rd rfl rfl (x_pick1 rfl (by conv => lhs; whnf)) ?_
        refine WL.nil ?_
        refine WC.cond1 rfl ?_
        refine WC.skip ?_
        refine WC.block ?_
        refine WC.region ?_
        refine l_rd rfl rfl (x_move h8) ?_
        refine l_rd rfl rfl (x_addN (a := k) (b := 1) rfl rfl (by omega)) ?_
        refine l_rd rfl rfl (x_assign (by conv => lhs; whnf)) ?_
        refine WL.nil ?_
        refine blockE_n ?_
        exact ⟨rfl, ys.length - (k + 1), by omega, k + 1, rfl, by omega, .inr (by omega), fun q z h1 h2 => by
          by_cases hq : q = k
          · subst hq; rw [hyk] at h2; cases h2; rw [← hey.2.2.2]; exact h27
          · exact hall q z (by omega) h2, rfl, h7, h0, h1, h2, H⟩
      ·
        have hstop : k = ys.length ∨ ¬ (k : Int) < most ∨ ∃ y, ys[k]? = some y ∧ ¬ y.time ≤ time := .inr (.inr ⟨y, hyk, by rw [← hey.2.2.2]; exact h27⟩)
        refine l_rd rfl rfl (x_pick1 rfl (by conv => lhs; whnf)) ?_
        refine WL.nil ?_
        refine WC.cond0 rfl ?_
        refine WC.exit ?_
        refine WC.seq ?_
        obtain ⟨v0, es0, hF0, hL0, hlen0, hpl0, H⟩ := RefP.opn (Hd.arrT [_, _, _, _] [2, 0, 1, 3] (by decide) rfl H)
        refine WC.region ?_
        refine l_rd rfl rfl (x_move h0) ?_
        refine l_rd rfl rfl (x_move h7) ?_
        refine l_rd rfl rfl (x_move h8) ?_
        refine l_rd rfl rfl (x_sliceFromA (i := k) Try.underlying28 ty33 rfl rfl (by omega) (by omega)) ?_
        refine l_rd rfl rfl (x_nilCheck rfl) ?_
        refine l_rd rfl rfl (x_fieldAddr Try.underlying30 rfl rfl ty28 (by decide) rfl) ?_
        refine l_no (s_st 0 rfl ty28 rfl (by conv => lhs; whnf) rfl rfl H fun w H => ?_)
        refine WL.nil ?_
        refine WC.seq ?_
        refine WC.region ?_
        refine l_rd rfl rfl (x_move h7) ?_
        refine l_rd rfl rfl (x_move h8) ?_
        refine l_rd rfl rfl (x_sliceToN (i := k) Try.underlying28 ty33 rfl rfl (by omega)) ?_
        refine l_rd rfl rfl (x_assign (by conv => lhs; whnf)) ?_
        refine WL.nil ?_
        refine WC.ret ?_
        refine atRet ?_
        have hT := upT_take hkm hall hstop hk
        obtain ⟨g1, hg1, hL1, H⟩ := ow_freeze hE (Hd.arrT [_, _, _, _] [2, 3, 1, 0] (by decide) rfl H)
        obtain ⟨g2, hg2, hx2, H⟩ := Hd.freezeSl H.swp
        have hL2 := hL1.mono hg2
        exact RetM.one rfl (by (conv => lhs; whnf); try rfl) ⟨g2, ys, hg1.trans hg2, hP, hW, by rw [← hT]; exact edl_take hx2 hL2 hk, by rw [← hT, List.length_take, Nat.min_eq_left hk]; exact RefP.mk (ref_drop hx2 hL2 hk hcap) (hL2.drop k) (by rw [List.length_drop, hP.length_eq]; omega) (fun y hy => hpl0 y (hP.mem_iff.1 (List.mem_of_mem_drop hy))) H.swp⟩
    ·
      have hstop : k = ys.length ∨ ¬ (k : Int) < most ∨ ∃ y, ys[k]? = some y ∧ ¬ y.time ≤ time := .inr (.inl h18)
      refine l_rd rfl rfl (x_pick1 rfl (by conv => lhs; whnf)) ?_
      refine l_rd rfl rfl (x_move (by conv => lhs; whnf)) ?_
      refine l_gn (wantN rfl rfl rfl) rfl ?_
      refine l_gn (wantN rfl rfl rfl) rfl ?_
      refine l_gn (wantN rfl rfl rfl) rfl ?_
      refine l_gn (wantN rfl rfl rfl) rfl ?_
      refine l_gn (wantN rfl rfl rfl) rfl ?_
      refine l_gn (wantN rfl rfl rfl) rfl ?_
      refine l_gn (wantN rfl rfl rfl) rfl ?_
      refine l_rd rfl rfl (x_pick0 rfl ev_c) ?_
      refine WL.nil ?_
      refine WC.cond0 rfl ?_
      refine WC.exit ?_
      refine WC.seq ?_
      obtain ⟨v0, es0, hF0, hL0, hlen0, hpl0, H⟩ := RefP.opn (Hd.arrT [_, _, _, _] [2, 0, 1, 3] (by decide) rfl H)
      refine WC.region ?_
      refine l_rd rfl rfl (x_move h0) ?_
      refine l_rd rfl rfl (x_move h7) ?_
      refine l_rd rfl rfl (x_move h8) ?_
      refine l_rd rfl rfl (x_sliceFromA (i := k) Try.underlying28 ty33 rfl rfl (by omega) (by omega)) ?_
      refine l_rd rfl rfl (x_nilCheck rfl) ?_
      refine l_rd rfl rfl (x_fieldAddr Try.underlying30 rfl rfl ty28 (by decide) rfl) ?_
      refine l_no (s_st 0 rfl ty28 rfl (by conv => lhs; whnf) rfl rfl H fun w H => ?_)
      refine WL.nil ?_
      refine WC.seq ?_
      refine WC.region ?_
      refine l_rd rfl rfl (x_move h7) ?_
      refine l_rd rfl rfl (x_move h8) ?_
      refine l_rd rfl rfl (x_sliceToN (i := k) Try.underlying28 ty33 rfl rfl (by omega)) ?_
      refine l_rd rfl rfl (x_assign (by conv => lhs; whnf)) ?_
      refine WL.nil ?_
      refine WC.ret ?_
      refine atRet ?_
      have hT := upT_take hkm hall hstop hk
      obtain ⟨g1, hg1, hL1, H⟩ := ow_freeze hE (Hd.arrT [_, _, _, _] [2, 3, 1, 0] (by decide) rfl H)
      obtain ⟨g2, hg2, hx2, H⟩ := Hd.freezeSl H.swp
      have hL2 := hL1.mono hg2
      exact RetM.one rfl (by (conv => lhs; whnf); try rfl) ⟨g2, ys, hg1.trans hg2, hP, hW, by rw [← hT]; exact edl_take hx2 hL2 hk, by rw [← hT, List.length_take, Nat.min_eq_left hk]; exact RefP.mk (ref_drop hx2 hL2 hk hcap) (hL2.drop k) (by rw [List.length_drop, hP.length_eq]; omega) (fun y hy => hpl0 y (hP.mem_iff.1 (List.mem_of_mem_drop hy))) H.swp⟩
  ·
    have hstop : k = ys.length ∨ ¬ (k : Int) < most ∨ ∃ y, ys[k]? = some y ∧ ¬ y.time ≤ time := .inl (by omega)
    refine l_rd rfl rfl (x_move (by conv => lhs; whnf)) ?_
    refine l_gn (wantN rfl rfl rfl) rfl ?_
    refine l_gn (wantN rfl rfl rfl) rfl ?_
    refine l_gn (wantN rfl rfl rfl) rfl ?_
    refine l_rd rfl rfl (x_pick0 rfl ev_c) ?_
    refine l_rd rfl rfl (x_move (by conv => lhs; whnf)) ?_
    refine l_gn (wantN rfl rfl rfl) rfl ?_
    refine l_gn (wantN rfl rfl rfl) rfl ?_
    refine l_gn (wantN rfl rfl rfl) rfl ?_
    refine l_gn (wantN rfl rfl rfl) rfl ?_
    refine l_gn (wantN rfl rfl rfl) rfl ?_
    refine l_gn (wantN rfl rfl rfl) rfl ?_
    refine l_gn (wantN rfl rfl rfl) rfl ?_
    refine l_rd rfl rfl (x_pick0 rfl ev_c) ?_
    refine WL.nil ?_
    refine WC.cond0 rfl ?_
    refine WC.exit ?_
    refine WC.seq ?_
    obtain ⟨v0, es0, hF0, hL0, hlen0, hpl0, H⟩ := RefP.opn (Hd.arrT [_, _, _, _] [2, 0, 1, 3] (by decide) rfl H)
    refine WC.region ?_
    refine l_rd rfl rfl (x_move h0) ?_
    refine l_rd rfl rfl (x_move h7) ?_
    refine l_rd rfl rfl (x_move h8) ?_
    refine l_rd rfl rfl (x_sliceFromA (i := k) Try.underlying28 ty33 rfl rfl (by omega) (by omega)) ?_
    refine l_rd rfl rfl (x_nilCheck rfl) ?_
    refine l_rd rfl rfl (x_fieldAddr Try.underlying30 rfl rfl ty28 (by decide) rfl) ?_
    refine l_no (s_st 0 rfl ty28 rfl (by conv => lhs; whnf) rfl rfl H fun w H => ?_)
    refine WL.nil ?_
    refine WC.seq ?_
    refine WC.region ?_
    refine l_rd rfl rfl (x_move h7) ?_
    refine l_rd rfl rfl (x_move h8) ?_
    refine l_rd rfl rfl (x_sliceToN (i := k) Try.underlying28 ty33 rfl rfl (by omega)) ?_
    refine l_rd rfl rfl (x_assign (by conv => lhs; whnf)) ?_
    refine WL.nil ?_
    refine WC.ret ?_
    refine atRet ?_
    have hT := upT_take hkm hall hstop hk
    obtain ⟨g1, hg1, hL1, H⟩ := ow_freeze hE (Hd.arrT [_, _, _, _] [2, 3, 1, 0] (by decide) rfl H)
    obtain ⟨g2, hg2, hx2, H⟩ := Hd.freezeSl H.swp
    have hL2 := hL1.mono hg2
    exact RetM.one rfl (by (conv => lhs; whnf); try rfl) ⟨g2, ys, hg1.trans hg2, hP, hW, by rw [← hT]; exact edl_take hx2 hL2 hk, by rw [← hT, List.length_take, Nat.min_eq_left hk]; exact RefP.mk (ref_drop hx2 hL2 hk hcap) (hL2.drop k) (by rw [List.length_drop, hP.length_eq]; omega) (fun y hy => hpl0 y (hP.mem_iff.1 (List.mem_of_mem_drop hy))) H.swp⟩

end Go.Proofs.Ytahdodijpmkddaa
set_option linter.unusedVariables false
set_option linter.unusedSimpArgs false
namespace Go.Proofs.Ytahdodijpmkddaa
open Go Go.RowKit KE Go.Proofs
theorem cal22 : Cal Try.prog 22 := ⟨_, Try.func22, rfl, by decide⟩
theorem cal43 : Cal Try.prog 43 := ⟨_, Try.func43, rfl, by decide⟩

theorem upT_no {V : List Eg} {time mst : Int} (h : mst < 1) : upT V time mst = [] := by
  unfold upT; rw [show mst.toNat = 0 by omega, List.take_zero]
theorem BufP.len {s : Sy} {w : World} {L : List Hp} {g : Sub} {B : Nat} {V : List Eg} (H : Hd s w (BufP g B V :: L)) : V.length ≤ 1000 := by
  obtain ⟨h, M, hs, tb, hI, H⟩ := BufP.opn H
  exact hI.len
def gat (b5 b7 : Nat) (mst : Int) (φ : Nat → Prop) (pre : List Eg) : Hp := fun m => ∃ q : Value × List Ed, (EdFs q.2 pre ∧ φ pre.length) ∧ sep [pt b5 (.cells #[I mst] 3 (0, 0)), pt b7 (.cells #[q.1] 28 (0, 0)), Sl q.1 33 5 pre.length (q.2.flatMap edC), ow q.2 pre] m
section
variable {s : Sy} {w : World} {L : List Hp} {b5 b7 : Nat} {mst : Int} {φ : Nat → Prop} {pre : List Eg}
theorem gat.opn (H : Hd s w (gat b5 b7 mst φ pre :: L)) : ∃ ov es, EdFs es pre ∧ φ pre.length ∧ Hd s w (pt b5 (.cells #[I mst] 3 (0, 0)) :: pt b7 (.cells #[ov] 28 (0, 0)) :: Sl ov 33 5 pre.length (es.flatMap edC) :: ow es pre :: L) := by
  obtain ⟨⟨ov, es⟩, ⟨hE, hφ⟩, H⟩ := Hd.opn H (fun h hh => hh)
  exact ⟨ov, es, hE, hφ, Hd.unsep H⟩
theorem gat.mk {ov : Value} {es : List Ed} (hE : EdFs es pre) (hφ : φ pre.length) (H : Hd s w (pt b5 (.cells #[I mst] 3 (0, 0)) :: pt b7 (.cells #[ov] 28 (0, 0)) :: Sl ov 33 5 pre.length (es.flatMap edC) :: ow es pre :: L)) : Hd s w (gat b5 b7 mst φ pre :: L) :=
  (Hd.sep (A := [_, _, _, _]) H).weak fun m hm => ⟨(ov, es), ⟨hE, hφ⟩, hm⟩
end
theorem c8 {s : Sy} {L : List Hp} {g : Sub} {B : Nat} {V : List Eg} {time mst : Int} (w : World) (H : Hd s w (BufP g B V :: fz g :: L)) : CC Try.prog 8 [.pointer (some ⟨B, 0, none⟩), I time, I mst].toArray w (fun r w' => ∃ es, EdFs es (upT V time mst) ∧ Hd s w' (Sl r 33 5 (upT V time mst).length (es.flatMap edC) :: ow es (upT V time mst) :: BufP g B (V.drop (upT V time mst).length) :: fz g :: L)) := by
  have hVl := BufP.len H
  refine CC.of (N := 28) Try.func8 rfl rfl rfl ?_
  refine WC.seq ?_
  refine WC.region ?_
  refine l_st rfl (s_box (by conv => lhs; whnf) H fun b5 w H => ?_)
  refine l_rd rfl rfl (x_assign ev_c) ?_
  refine WL.nil ?_
  refine WC.seq ?_
  refine WC.region ?_
  refine l_st rfl (s_alloc ty28 H fun b7 w H => ?_)
  refine WL.nil ?_
  refine WC.seq ?_
  refine WC.seq ?_
  refine WC.region ?_
  refine l_rd rfl rfl (x_load Try.underlying3 rfl rfl (H.cellL 1 rfl rfl)) ?_
  refine l_rdD rfl rfl (x_lss rfl rfl) (fun h11 => ?_) (fun h11 => ?_)
  ·
    refine WL.nil ?_
    refine WC.cond1 rfl ?_
    refine WC.seq ?_
    refine WC.region ?_
    refine l_rd rfl rfl (x_assign ev_c) ?_
    refine WL.nil ?_
    refine WC.ret ?_
    refine atRet ?_
    exact RetM.one rfl (by (conv => lhs; whnf); try rfl) (⟨[], by rw [upT_no (by omega)]; exact ⟨rfl, fun i e x h => by simp at h⟩, by rw [upT_no (by omega)]; exact Hd.arrT [_, _, _, _, _, _] [1, 0, 4, 5] (by decide) rfl (ow_nil (Hd.nil H 33 5))⟩)
  ·
    refine WL.nil ?_
    refine WC.cond0 rfl ?_
    refine WC.skip ?_
    refine WC.seq ?_
    refine WC.region ?_
    refine l_rd rfl rfl (x_move (by conv => lhs; whnf)) ?_
    refine l_rd rfl rfl (x_move (by conv => lhs; whnf)) ?_
    refine l_st rfl (s_callL cal22 (c22 _ H) ?_)
    rintro _ w ⟨x1, x2, rfl, H⟩
    refine l_rd rfl rfl (x_assign (by conv => lhs; whnf)) ?_
    refine WL.nil ?_
    refine WC.seq ?_
    refine WC.seq ?_
    refine WC.region ?_
    refine l_rd rfl rfl (x_move (by conv => lhs; whnf)) ?_
    refine l_rd rfl rfl (x_eqlFN Try.underlying58 rfl) ?_
    refine WL.nil ?_
    refine WC.cond0 rfl ?_
    refine WC.skip ?_
    refine WC.seq ?_
    refine WC.seq ?_
    refine WC.region ?_
    refine l_rd rfl rfl (x_move (by conv => lhs; whnf)) ?_
    refine WL.nil ?_
    refine WC.block ?_
    have H := Hd.starAt [_] (Hd.starAt [_, _] (Hd.starAt [_, _, _] (gat.mk (pre := []) (es := []) (φ := fun n => (n : Int) < mst) ⟨rfl, fun i e x h => by simp at h⟩ (by show (0 : Int) < mst; omega) (Hd.arrT [_, _, _, _, _, _, _, _] [5, 4, 1, 0, 2, 3, 6, 7] (by decide) rfl (ow_nil (Hd.nil H 33 5))))))
    refine WC.rangeFn (P := Try.prog) (caps := [.pointer (some ⟨x1, 0, none⟩), .pointer (some ⟨x2, 0, none⟩)]) (E := yE) (xs := V.takeWhile fun x => decide (x.time ≤ time)) (A := star (pt x1 (.cells #[.pointer (some ⟨B, 0, none⟩)] 25 (0, 0))) (star (pt x2 (.cells #[I time] 3 (0, 0))) (star (BufP g B V) (fz g)))) (B := fun pre => star (pt x1 (.cells #[.pointer (some ⟨B, 0, none⟩)] 25 (0, 0))) (star (pt x2 (.cells #[I time] 3 (0, 0))) (star (BufP g B (V.drop pre.length)) (fz g)))) (I := gat b5 b7 mst (fun n => (n : Int) < mst)) (X := fun c => gat b5 b7 mst (fun n => (n : Int) = mst ∧ c = .exit 0)) (L := L) rfl cal43 (by decide) (fun x vs h hv => by obtain ⟨e, ⟨hv, _⟩, _⟩ := hv; rw [hv]; rfl) it43 H ?_ ?_ ?_
    ·
      intro l pre x rest vs w L' L2 hxs hrec H
      obtain ⟨e, ⟨hvs, hke⟩, H⟩ := Hd.opn (H.pick 1 rfl) (fun h hh => hh)
      subst hvs
      obtain ⟨q1, q2, q3, q4, q5⟩ := e
      obtain ⟨pa, pc, rfl⟩ : ∃ a c, q5 = .slice a x.props.length c := (H.sl 0 rfl).shape
      have H := H.swp
      refine WC.region ?_
      refine l_st rfl (s_alloc ty33 H fun b9 w H => ?_)
      refine l_no (s_stA 0 rfl ty33 rfl (by conv => lhs; whnf) rfl rfl rfl H fun w H => ?_)
      refine WL.nil ?_
      refine ⟨⟨[_, _, _], H⟩, fun w2 hw2 => ?_⟩
      clear hrec
      have H := Hd.arrT [_, _, _] [1, 0, 2] (by decide) rfl (hw2 [_, _, _] H)
      clear hw2
      have H : Hd s w2 (gat b5 b7 mst (fun n => (n : Int) < mst) pre :: _ :: _ :: L2) := H
      obtain ⟨ov, es, hE, hlt, H⟩ := gat.opn H
      obtain ⟨ao, co, rfl⟩ := (H.sl 2 rfl).shape
      have hpl : pre.length + 1 ≤ 1000 := by have h1 := congrArg List.length hxs; simp only [List.length_append, List.length_cons] at h1; have h2 := (List.takeWhile_sublist (l := V) (fun x => decide (x.time ≤ time))).length_le; omega
      refine WC.block ?_
      refine WC.seq ?_
      refine WC.region ?_
      refine l_rd rfl rfl (x_load Try.underlying28 rfl rfl (H.cellL 1 rfl rfl)) ?_
      refine l_rd rfl rfl (x_loadF (vs := [_, _, _, _, _]) Try.underlying33 rfl ty33 rfl rfl (H.cellsL 4 rfl rfl)) ?_
      refine l_st rfl (s_build1A Try.underlying28 ty33 rfl (by decide) (by decide) (by conv => lhs; whnf) rfl H fun b21 w H => ?_)
      refine l_st rfl (s_append Try.underlying28 ty33 rfl (by decide) (by decide) rfl 3 rfl rfl rfl (H.sl 0 rfl) (by simp [Value.oneCell']) (by omega) H fun v22 w H => ?_)
      obtain ⟨a22, c22, rfl⟩ := (H.sl 3 rfl).shape
      refine l_no (s_st 2 rfl ty28 rfl (by conv => lhs; whnf) rfl rfl H fun w H => ?_)
      refine WL.nil ?_
      refine WC.seq ?_
      refine WC.region ?_
      refine l_rd rfl rfl (x_load Try.underlying28 rfl rfl (H.cellL 2 rfl rfl)) ?_
      refine l_rd rfl rfl (x_lenSlice Try.underlying28 rfl rfl) ?_
      refine l_rd rfl rfl (x_load Try.underlying3 rfl rfl (H.cellL 1 rfl rfl)) ?_
      refine l_rdD rfl rfl (x_eql rfl rfl) (fun h26 => ?_) (fun h26 => ?_)
      ·
        refine WL.nil ?_
        refine WC.cond1 rfl ?_
        refine WC.exit ?_
        have H := ow_snoc2 (e := ⟨q1, q2, q3, q4, .slice pa x.props.length pc⟩) (x := x) hE.1 (Hd.arrT [_, _, _, _, _, _, _] [6, 4, 1, 2, 3] (by decide) rfl H)
        have H := Hd.arrT [_, _, _, _] [1, 2, 3, 0] (by decide) rfl H
        exact gat.mk (hE.snoc2 hke) (⟨by rw [len_snoc]; exact h26, rfl⟩) (by rw [len_snoc, List.flatMap_append]; exact H)
      ·
        refine WL.nil ?_
        refine WC.cond0 rfl ?_
        refine WC.skip ?_
        have H := ow_snoc2 (e := ⟨q1, q2, q3, q4, .slice pa x.props.length pc⟩) (x := x) hE.1 (Hd.arrT [_, _, _, _, _, _, _] [6, 4, 1, 2, 3] (by decide) rfl H)
        have H := Hd.arrT [_, _, _, _] [1, 2, 3, 0] (by decide) rfl H
        exact gat.mk (hE.snoc2 hke) (by rw [len_snoc]; have : (pre.length : Int) < mst := hlt; have h9 : ¬ (((pre.length + 1 : Nat)) : Int) = mst := h26; omega) (by rw [len_snoc, List.flatMap_append]; exact H)
    ·
      intro w m H
      obtain ⟨ov, es, hE, hlt, H⟩ := gat.opn H
      have hTT : upT V time mst = V.takeWhile (fun x => decide (x.time ≤ time)) := List.take_of_length_le (by omega)
      rw [← hTT] at hE H
      obtain ⟨ao, co, rfl⟩ := (H.sl 2 rfl).shape
      have H := Hd.unstarAt [_, _, _, _, _, _] (Hd.unstarAt [_, _, _, _, _] (Hd.unstarAt [_, _, _, _] H))
      refine WC.seq ?_
      refine WC.region ?_
      refine l_rd rfl rfl (x_load Try.underlying28 rfl rfl (H.cellL 1 rfl rfl)) ?_
      refine l_rd rfl rfl (x_assign (by conv => lhs; whnf)) ?_
      refine WL.nil ?_
      refine WC.ret ?_
      refine atRet ?_
      refine RetM.mark H (i := 8) rfl (fun w H => ?_)
      exact RetM.one rfl (by (conv => lhs; whnf); try rfl) (⟨es, hE, Hd.arrT [_, _, _, _, _, _, _, _, _] [2, 3, 6, 7] (by decide) rfl H⟩)
    ·
      intro w m c pre x rest hxs H
      obtain ⟨ov, es, hE, ⟨hsm, hcx⟩, H2⟩ := gat.opn H
      clear H
      subst hcx
      have H := H2
      clear H2
      have hTT : upT V time mst = pre ++ [x] := by unfold upT; rw [hxs, List.append_cons, List.take_left' (by omega)]
      rw [← hTT] at hE H
      obtain ⟨ao, co, rfl⟩ := (H.sl 2 rfl).shape
      have H := Hd.unstarAt [_, _, _, _, _, _] (Hd.unstarAt [_, _, _, _, _] (Hd.unstarAt [_, _, _, _] H))
      refine WC.exit ?_
      refine WC.seq ?_
      refine WC.region ?_
      refine l_rd rfl rfl (x_load Try.underlying28 rfl rfl (H.cellL 1 rfl rfl)) ?_
      refine l_rd rfl rfl (x_assign (by conv => lhs; whnf)) ?_
      refine WL.nil ?_
      refine WC.ret ?_
      refine atRet ?_
      refine RetM.mark H (i := 8) rfl (fun w H => ?_)
      exact RetM.one rfl (by (conv => lhs; whnf); try rfl) (⟨es, hE, Hd.arrT [_, _, _, _, _, _, _, _, _] [2, 3, 6, 7] (by decide) rfl H⟩)

end Go.Proofs.Ytahdodijpmkddaa
