/-
  What functions of this seat do: contracts, proved by walks, and the plain laws that they need; each with the conditions that it names.
-/
import Derived.Test.YteibnmkikdbndaaGreatDoorM6
set_option linter.unusedVariables false
set_option linter.unusedSimpArgs false
namespace Go.Proofs.YteibnmkikdbndaaGreatDoor
open Go Go.RowKit KE Go.Proofs
theorem ty155 : Ty Tryz.prog 155 (.map none) 1 8 := Ty.of (by kernel_rfl)
theorem cal77 : Cal Tryz.prog 77 := ⟨_, Tryz.func77, rfl, by decide⟩
theorem cal80 : Cal Tryz.prog 80 := ⟨_, Tryz.func80, rfl, by decide⟩
theorem cal81 : Cal Tryz.prog 81 := ⟨_, Tryz.func81, rfl, by decide⟩
theorem cal82 : Cal Tryz.prog 82 := ⟨_, Tryz.func82, rfl, by decide⟩
theorem lk_new {lk : Ln} {k : ByteArray} {m : Nat} (h : none = glook k lk) (hok : okN2 lk) : glook k (gset k (m, ([] : List (Lk × Int))) lk) = some (m, []) ∧ (∀ v to lab, lnkT (gset k (m, ([] : List (Lk × Int))) lk) v to lab = lnkT lk v to lab) ∧ okN2 (gset k (m, ([] : List (Lk × Int))) lk) ∧ tot (gset k (m, ([] : List (Lk × Int))) lk) = tot lk := by
  refine ⟨by rw [glook_gset, if_pos rfl], fun v to lab => ?_, hok.set List.nodup_nil, ?_⟩
  · unfold lnkT
    rw [look2_gset]
    split
    · rename_i e
      subst e
      unfold look2; rw [← h]; rfl
    · rfl
  · rw [gset_new h.symm]; unfold tot; simp
theorem lk_put {lk lk1 : Ln} {e : Ed} {m : Nat} {row : List (Lk × Int)} (h : glook e.src lk1 = some (m, row)) (hok : okN2 lk1) (hk : ∀ v to lab, lnkT lk1 v to lab = lnkT lk v to lab) (ht : tot lk1 = tot lk) :
    (∀ v to lab, lnkT (gset e.src (m, gset (e.dst, e.lab) e.time row) lk1) v to lab = if (v, to, lab) = (e.src, e.dst, e.lab) then some e.time else lnkT lk v to lab) ∧ okN2 (gset e.src (m, gset (e.dst, e.lab) e.time row) lk1) ∧ tot (gset e.src (m, gset (e.dst, e.lab) e.time row) lk1) ≤ tot lk + 1 := by
  refine ⟨fun v to lab => ?_, hok.set (gset_nodup (hok.row h)), ?_⟩
  · rw [← hk]
    unfold lnkT
    rw [look2_gset]
    by_cases e1 : v = e.src
    · subst e1
      rw [if_pos rfl, glook_gset]
      by_cases e2 : (to, lab) = (e.dst, e.lab)
      · rw [if_pos e2, if_pos]; rw [Prod.mk.injEq] at e2; rw [e2.1, e2.2]
      · rw [if_neg e2, if_neg]
        · unfold look2; rw [h]; rfl
        · intro e3; exact e2 (Prod.mk.inj e3).2
    · rw [if_neg e1, if_neg]
      intro e3; exact e1 (Prod.mk.inj e3).1
  · have h1 := tot_gset (row2 := gset (e.dst, e.lab) e.time row) h
    have h2 : (gset (e.dst, e.lab) e.time row).length ≤ row.length + 1 := by rw [gset_old_len]; split <;> omega
    omega
theorem edgs_len (lk : Ln) : (edgs lk).length = tot lk := by
  unfold edgs tot
  induction lk with
  | nil => rfl
  | cons p l ih => rw [List.flatMap_cons, List.length_append, ih, List.map_cons, List.sum_cons, List.length_map]
theorem sq_len (E : List Hq) (l : List Pq) (hn : l.Nodup) (hE : E.length ≤ 20) (h : ∀ q ∈ l, q.1 ∈ srcs E ∧ q.2 ∈ dsts E) : l.length ≤ 400 := by
  have h1 := len_sub (l := l) (m := (srcs E).flatMap fun r => (dsts E).map fun v => (r, v)) hn fun q hq =>
    List.mem_flatMap.2 ⟨_, (h q hq).1, List.mem_map.2 ⟨_, (h q hq).2, rfl⟩⟩
  have h2 : ((srcs E).flatMap fun r => (dsts E).map fun v => (r, v)).length = (srcs E).length * E.length := by
    induction srcs E with
    | nil => simp
    | cons r l ih => rw [List.flatMap_cons, List.length_append, ih, List.length_map, List.length_cons, Nat.succ_mul]; simp [dsts]; omega
  rw [h2] at h1
  have : (srcs E).length = E.length := by simp [srcs]
  rw [this] at h1
  exact Nat.le_trans h1 (Nat.mul_le_mul hE hE)
theorem GI.mlen {A : Gr} {E : List Hq} {c : Int} {lk : Ln} {n0 n : Nn} {W : List Rs} {met : List (Pq × Int)} (h : GI A E c lk n0 n W met) (hE : E.length ≤ 20) : met.length ≤ 400 := by
  have := sq_len E (met.map (·.1)) h.nd hE fun q hq => by
    obtain ⟨⟨q', v⟩, h2, rfl⟩ := List.mem_map.1 hq
    obtain ⟨s, -, h4⟩ := (h.met q').1 (by rw [mem_glook h.nd h2]; rfl)
    cases h5 : nodT n q'.1 q'.2 s with
    | some t => have h6 := h.fin _ _ _ _ h5; exact ⟨h6.1, h6.2.1⟩
    | none =>
      cases h6 : nodT n0 q'.1 q'.2 s with
      | none => exact absurd (h5.trans h6.symm) h4
      | some t =>
        obtain ⟨t', h7, _⟩ := h.mono _ _ _ _ h6
        rw [h5] at h7; cases h7
  simpa using this
theorem Cl.lst2 {A : Gr} {E : List Hq} {c last : Int} {lk : Ln} {n : Nn} {e : Ed} (h : Cl A E c last lk n) (hl : last ≤ e.time) : ∀ q ∈ hq e :: E, q.2.2.2 ≤ e.time := fun q hqm => by
  rcases List.mem_cons.1 hqm with rfl | h1
  · exact Int.le_refl _
  · exact Int.le_trans (h.lst q h1) hl
theorem Hd.eqIM {P : Program} {kt' : TypeId} {κ κ' α : Type} [DecidableEq κ'] {T2 : KT P kt' κ'} {f : α → Value} {l l' : N2 κ κ' α} {s : Sy} {w : World} {L : List Hp} (e : l' = l) (H : Hd s w (IM T2 f l :: L)) : Hd s w (IM T2 f l' :: L) := e ▸ H
theorem Hd.eqMp {P : Program} {kt : TypeId} {κ κ' α : Type} [DecidableEq κ] {T : KT P kt κ} {m : Nat} {l l' : N2 κ κ' α} {s : Sy} {w : World} {L : List Hp} (e : l' = l) (H : Hd s w (Mp T m (l.map (gval pI)) :: L)) : Hd s w (Mp T m (l'.map (gval pI)) :: L) := e ▸ H
theorem Hd.eqMp2 {P : Program} {kt : TypeId} {κ κ' α : Type} [DecidableEq κ] [DecidableEq κ'] {T : KT P kt κ} {m m1 : Nat} {k : κ} {row row' : List (κ' × α)} {l l' : N2 κ κ' α} {s : Sy} {w : World} {L : List Hp} (e : l' = gset k (m1, row') l) (h : glook k l = some (m1, row)) (H : Hd s w (Mp T m (l.map (gval pI)) :: L)) : Hd s w (Mp T m (l'.map (gval pI)) :: L) := by
  rw [e, gset_pt h]; exact H
theorem c36 {s : Sy} [NoEx s] {L : List Hp} {g : KE.Sub} {f a mn ml : Nat} {n : Nn} {lk : Ln} {cut last : Int} {A : Gr} {e : Ed} {xs : List Pr} {X : Hp} {E : List Hq} (w : World) (hE : okA A) (hAt : okTg A) (hA : AuG g a A) (hcut : -1 ≤ cut) (hCl : Cl A E cut last lk n) (hEd : E.length ≤ 19) (htl : tot lk ≤ 19) (hpv : oneC e.pv = true) (hX : ∀ w1 L1, Hd s w1 (X :: L1) → RdS w1 e.pv 4 prC xs) (hsz : ∀ p ∈ xs, p.key.size ≤ 140737488355328 ∧ p.text.size ≤ 140737488355328) (H : Hd s w (pt f (.cells (foC a mn ml cut last).toArray 143 (0, 0)) :: Mp TSp mn (n.map (gval pI)) :: IM TS I n :: Mp TS ml (lk.map (gval pI)) :: IM TLk I lk :: fz g :: X :: L)) : CC Tryz.prog 36 [.pointer (some ⟨f, 0, none⟩), .agg (edC e).toArray].toArray w (fun r w' => ∃ (v : Value) (er : Int), r = .tuple #[v, I er] ∧ ((er ≠ 0 ∧ v = .slice none 0 0 ∧ (chk e.src e.dst e.lab e.time xs ≠ 0 ∨ ¬ (last ≤ e.time ∧ cut < e.time)) ∧ Hd s w' (pt f (.cells (foC a mn ml cut last).toArray 143 (0, 0)) :: Mp TSp mn (n.map (gval pI)) :: IM TS I n :: Mp TS ml (lk.map (gval pI)) :: IM TLk I lk :: fz g :: X :: L)) ∨ (er = 0 ∧ ∃ (n' : Nn) (lk' : Ln) (l : List Pc), last ≤ e.time ∧ cut < e.time ∧ chk e.src e.dst e.lab e.time xs = 0 ∧ Cl A (hq e :: E) cut e.time lk' n' ∧ (∀ v to lab, lnkT lk' v to lab = if (v, to, lab) = (e.src, e.dst, e.lab) then some e.time else lnkT lk v to lab) ∧ tot lk' ≤ tot lk + 1 ∧ Shw l (chg (tree A n) (tree A n')) ∧ Hd s w' (Sl v 43 3 l.length (l.flatMap pcC) :: pt f (.cells (foC a mn ml cut e.time).toArray 143 (0, 0)) :: Mp TSp mn (n'.map (gval pI)) :: IM TS I n' :: Mp TS ml (lk'.map (gval pI)) :: IM TLk I lk' :: fz g :: X :: L)))) := by
  refine CC.of (N := 87) Tryz.func36 rfl rfl rfl ?_
  refine WC.seq ?_
  refine WC.region ?_
  refine l_st rfl (s_box (by conv => lhs; whnf) H fun b2 w H => ?_)
  refine l_st rfl (s_box (by conv => lhs; whnf) H fun b3 w H => ?_)
  refine l_rd rfl rfl (x_assign ev_c) ?_
  refine l_rd rfl rfl (x_assign ev_c) ?_
  refine WL.nil ?_
  refine WC.seq ?_
  refine WC.seq ?_
  refine WC.region ?_
  refine l_rd rfl rfl (x_load Tryz.underlying74 rfl rfl (H.cellL 1 rfl rfl)) ?_
  refine l_st rfl (s_callL cal72 (c72 _ (FoL.rdc hA (Hd.arrT [_, _, _, _, _, _, _, _, _] [2, 3, 4, 5, 6, 7, 0, 1, 8] (by decide) rfl H))) ?_)
  rintro _ w ⟨rfl, e1⟩
  have H := H.ext e1
  refine l_rd rfl rfl (x_not rfl) ?_
  refine WL.nil ?_
  refine WC.cond0 rfl ?_
  refine WC.skip ?_
  refine WC.seq ?_
  refine WC.seq ?_
  refine WC.region ?_
  refine l_rd rfl rfl (x_loadF (vs := [_, _, _, _, _]) Tryz.underlying35 rfl ty35 rfl rfl (H.cellsL 0 rfl rfl)) ?_
  refine l_st rfl (s_callL cal77 (c77 _ (hX _ _ (Hd.arrT [_, _, _, _, _, _, _, _, _] [8, 0, 1, 2, 3, 4, 5, 6, 7] (by decide) rfl H)) hsz) ?_)
  rintro _ w ⟨rfl, e1⟩
  have H := H.ext e1
  refine l_rd rfl rfl (x_assign (by conv => lhs; whnf)) ?_
  refine WL.nil ?_
  refine WC.seq ?_
  refine WC.region ?_
  refine l_rd rfl rfl (x_move (by conv => lhs; whnf)) ?_
  refine l_rdD rfl rfl (x_neq rfl rfl) (fun h16 => ?_) (fun h16 => ?_)
  ·
    refine WL.nil ?_
    refine WC.cond1 rfl ?_
    refine WC.seq ?_
    refine WC.region ?_
    refine l_rd rfl rfl (x_move (by conv => lhs; whnf)) ?_
    refine l_rd rfl rfl (x_assign ev_c) ?_
    refine l_rd rfl rfl (x_assign (by conv => lhs; whnf)) ?_
    refine WL.nil ?_
    refine WC.ret ?_
    refine atRet ?_
    exact RetM.two rfl (by (conv => lhs; whnf); try rfl) (by (conv => lhs; whnf); try rfl) (⟨_, _, rfl, .inl ⟨h16, rfl, .inl h16, Hd.arrT [_, _, _, _, _, _, _, _, _] [2, 3, 4, 5, 6, 7, 8] (by decide) rfl H⟩⟩)
  ·
    have h16 : chk e.src e.dst e.lab e.time xs = 0 := by omega
    refine WL.nil ?_
    refine WC.cond0 rfl ?_
    refine WC.skip ?_
    refine WC.seq ?_
    refine WC.seq ?_
    refine WC.draw mixed [] [[], [0], [], [2], [2, 3], [2, 3, 4], [0, 1, 2, 3, 4, 5], [0, 1, 2, 3, 4, 5, 6], [0, 1, 2, 3, 4, 5, 6, 7], [0, 1, 2, 3, 4, 5, 6, 7, 8], [0, 1, 2, 3, 4, 5, 6, 7], [0, 1, 2, 3, 4, 5, 6, 7, 10], [0, 1, 2, 3, 4, 5, 6, 7, 10, 11], [0, 1, 2, 3, 4, 5, 6, 7, 10, 11, 12], [0, 1, 2, 3, 4, 5, 6, 7, 8, 9, 10, 11, 12, 13], [0, 1, 2, 3, 4, 5, 6, 7, 8, 9, 10, 11, 12, 13, 14]] [0, 1, 2, 3, 4, 5, 6, 7, 8, 9, 10, 11, 12, 13, 14, 15] (by kernel_rfl) ?_
    have H := H.drew
    refine k_rd rfl rfl (RS.of rfl rfl (x_fieldAddr (k := 3) Tryz.underlying35 rfl rfl ty3 (by decide) rfl)) ?_
    refine k_rd rfl rfl (RS.of rfl rfl (x_load Tryz.underlying3 rfl rfl (H.cellL 0 rfl rfl))) ?_
    refine k_rd rfl rfl (RS.of rfl rfl (x_load Tryz.underlying74 rfl rfl (H.cellL 1 rfl rfl))) ?_
    refine k_rd rfl rfl (RS.of rfl rfl (x_nilCheck rfl)) ?_
    refine k_rd rfl rfl (RS.of rfl rfl (x_fieldAddr (k := 4) Tryz.underlying143 rfl rfl ty3 (by decide) rfl)) ?_
    refine k_rd rfl rfl (RS.of rfl rfl (x_load Tryz.underlying3 rfl rfl (H.cellL 2 rfl rfl))) ?_
    refine k_rdD rfl rfl rfl rfl (x_lss rfl rfl) (fun h24 => ?_) (fun h24 => ?_)
    ·
      refine k_rd rfl rfl (RS.of rfl rfl (x_move (by conv => lhs; whnf))) ?_
      refine k_rd rfl rfl (RS.no rfl (wantN rfl rfl rfl)) ?_
      refine k_rd rfl rfl (RS.no rfl (wantN rfl rfl rfl)) ?_
      refine k_rd rfl rfl (RS.no rfl (wantN rfl rfl rfl)) ?_
      refine k_rd rfl rfl (RS.no rfl (wantN rfl rfl rfl)) ?_
      refine k_rd rfl rfl (RS.no rfl (wantN rfl rfl rfl)) ?_
      refine k_rd rfl rfl (RS.no rfl (wantN rfl rfl rfl)) ?_
      refine k_rd rfl rfl (RS.no rfl (wantN rfl rfl rfl)) ?_
      refine k_rd rfl rfl (RS.of rfl rfl (x_pick1 rfl ev_c)) ?_
      show _
      refine WC.cond1 rfl ?_
      refine WC.seq ?_
      refine WC.region ?_
      refine l_rd rfl rfl (x_assign ev_c) ?_
      refine l_rd rfl rfl (x_assign ev_c) ?_
      refine WL.nil ?_
      refine WC.ret ?_
      refine atRet ?_
      exact RetM.two rfl (by (conv => lhs; whnf); try rfl) (by (conv => lhs; whnf); try rfl) (⟨_, _, rfl, .inl ⟨by decide, rfl, .inr (fun h9 => by omega), Hd.arrT [_, _, _, _, _, _, _, _, _] [2, 3, 4, 5, 6, 7, 8] (by decide) rfl H⟩⟩)
    ·
      have h24 : last ≤ e.time := by omega
      refine k_rd rfl rfl (RS.of rfl rfl (x_move (by conv => lhs; whnf))) ?_
      refine k_rd rfl rfl (RS.yes rfl (wantY rfl rfl rfl) (x_fieldAddr (k := 3) Tryz.underlying35 rfl rfl ty3 (by decide) rfl)) ?_
      refine k_rd rfl rfl (RS.yes rfl (wantY rfl rfl rfl) (x_load Tryz.underlying3 rfl rfl (H.cellL 0 rfl rfl))) ?_
      refine k_rd rfl rfl (RS.yes rfl (wantY rfl rfl rfl) (x_load Tryz.underlying74 rfl rfl (H.cellL 1 rfl rfl))) ?_
      refine k_rd rfl rfl (RS.yes rfl (wantY rfl rfl rfl) (x_nilCheck rfl)) ?_
      refine k_rd rfl rfl (RS.yes rfl (wantY rfl rfl rfl) (x_fieldAddr (k := 3) Tryz.underlying143 rfl rfl ty3 (by decide) rfl)) ?_
      refine k_rd rfl rfl (RS.yes rfl (wantY rfl rfl rfl) (x_load Tryz.underlying3 rfl rfl (H.cellL 2 rfl rfl))) ?_
      refine k_rdD rfl rfl (wantY rfl rfl rfl) rfl (x_leq rfl rfl) (fun h32 => ?_) (fun h32 => ?_)
      ·
        refine k_rd rfl rfl (RS.of rfl rfl (x_pick0 rfl (by conv => lhs; whnf))) ?_
        show _
        refine WC.cond1 rfl ?_
        refine WC.seq ?_
        refine WC.region ?_
        refine l_rd rfl rfl (x_assign ev_c) ?_
        refine l_rd rfl rfl (x_assign ev_c) ?_
        refine WL.nil ?_
        refine WC.ret ?_
        refine atRet ?_
        exact RetM.two rfl (by (conv => lhs; whnf); try rfl) (by (conv => lhs; whnf); try rfl) (⟨_, _, rfl, .inl ⟨by decide, rfl, .inr (fun h9 => by omega), Hd.arrT [_, _, _, _, _, _, _, _, _] [2, 3, 4, 5, 6, 7, 8] (by decide) rfl H⟩⟩)
      ·
        have h32 : cut < e.time := by omega
        refine k_rd rfl rfl (RS.of rfl rfl (x_pick0 rfl (by conv => lhs; whnf))) ?_
        show _
        refine WC.cond0 rfl ?_
        refine WC.skip ?_
        refine WC.seq ?_
        refine WC.region ?_
        refine l_rd rfl rfl (x_load Tryz.underlying74 rfl rfl (H.cellL 1 rfl rfl)) ?_
        refine l_rd rfl rfl (x_fieldAddr (k := 3) Tryz.underlying35 rfl rfl ty3 (by decide) rfl) ?_
        refine l_rd rfl rfl (x_load Tryz.underlying3 rfl rfl (H.cellL 0 rfl rfl)) ?_
        refine l_rd rfl rfl (x_nilCheck rfl) ?_
        refine l_rd rfl rfl (x_fieldAddr (k := 4) Tryz.underlying143 rfl rfl ty3 (by decide) rfl) ?_
        refine l_no (s_st 2 rfl ty3 rfl (by conv => lhs; whnf) rfl rfl H fun w H => ?_)
        refine WL.nil ?_
        refine WC.seq ?_
        refine WC.seq ?_
        have H : Hd s w (pt f (.cells (foC a mn ml cut e.time).toArray 143 (0, 0)) :: _) := Hd.arrT [_, _, _, _, _, _, _, _, _] [2, 0, 1, 3, 4, 5, 6, 7, 8] (by decide) rfl H
        obtain ⟨ol, hol⟩ : ∃ ol, ol = glook e.src lk := ⟨_, rfl⟩
        rcases ol with _ | ⟨m1, row1⟩
        ·
          refine WC.draw mixed [] [[], [0], [0, 1], [0, 1, 2], [], [4], [0, 1, 2, 3, 4, 5], [0, 1, 2, 3, 4, 5, 6]] [0, 1, 2, 3, 4, 5, 6, 7] (by kernel_rfl) ?_
          have H := H.drew
          refine k_rd rfl rfl (RS.of rfl rfl (x_load Tryz.underlying74 rfl rfl (H.cellL 2 rfl rfl))) ?_
          refine k_rd rfl rfl (RS.of rfl rfl (x_nilCheck rfl)) ?_
          refine k_rd rfl rfl (RS.of rfl rfl (x_fieldAddr (k := 2) Tryz.underlying143 rfl rfl ty141 (by decide) rfl)) ?_
          refine k_rd rfl rfl (RS.of rfl rfl (x_load Tryz.underlying141 rfl rfl (H.cellL 0 rfl rfl))) ?_
          refine k_rd rfl rfl (RS.of rfl rfl (x_fieldAddr (k := 0) Tryz.underlying35 rfl rfl ty9 (by decide) rfl)) ?_
          refine k_rd rfl rfl (RS.of rfl rfl (x_load Tryz.underlying9 rfl rfl (H.cellL 1 rfl rfl))) ?_
          refine k_rd rfl rfl (RS.of rfl rfl (x_lookM TS Tryz.underlying141 ty154 rfl rfl H 5 rfl (show _ = Value.map none from lk_pt.trans (by rw [← hol]; rfl)))) ?_
          refine k_rd rfl rfl (RS.of rfl rfl ((x_eqlM (o := (none : Option (Nat × List (Lk × Int)))) Tryz.underlying154 rfl).trans (by rw [decide_eq_true rfl]))) ?_
          show _
          refine WC.cond1 rfl ?_
          refine WC.draw mixed [6, 7] [[], [0], [0, 1], [0, 1, 2], [], [4], [], [0, 1, 2, 3, 4, 5, 6]] [0, 1, 2, 3, 4, 5, 6, 7] (by kernel_rfl) ?_
          have H := H.drew
          refine k_rd rfl rfl (RS.of rfl rfl (x_load Tryz.underlying74 rfl rfl (H.cellL 2 rfl rfl))) ?_
          refine k_rd rfl rfl (RS.of rfl rfl (x_nilCheck rfl)) ?_
          refine k_rd rfl rfl (RS.of rfl rfl (x_fieldAddr (k := 2) Tryz.underlying143 rfl rfl ty141 (by decide) rfl)) ?_
          refine k_rd rfl rfl (RS.of rfl rfl (x_load Tryz.underlying141 rfl rfl (H.cellL 0 rfl rfl))) ?_
          refine k_rd rfl rfl (RS.of rfl rfl (x_fieldAddr (k := 0) Tryz.underlying35 rfl rfl ty9 (by decide) rfl)) ?_
          refine k_rd rfl rfl (RS.of rfl rfl (x_load Tryz.underlying9 rfl rfl (H.cellL 1 rfl rfl))) ?_
          refine k_st rfl rfl rfl (s_makeMap H (fun m53 w H => ?_))
          have H := Hd.weak H (Mp.made TLk)
          refine ⟨⟨RS.of rfl rfl (x_load Tryz.underlying9 rfl rfl (H.cellL 2 rfl rfl)), ⟨RS.of rfl rfl (x_fieldAddr (k := 0) Tryz.underlying35 rfl rfl ty9 (by decide) rfl), ⟨RS.of rfl rfl (x_load Tryz.underlying141 rfl rfl (H.cellL 1 rfl rfl)), ⟨RS.of rfl rfl (x_fieldAddr (k := 2) Tryz.underlying143 rfl rfl ty141 (by decide) rfl), ⟨RS.of rfl rfl (x_nilCheck rfl), ⟨RS.of rfl rfl (x_load Tryz.underlying74 rfl rfl (H.cellL 3 rfl rfl)), trivial⟩⟩⟩⟩⟩⟩, ?_⟩
          refine k_no rfl rfl rfl (s_mapUpdate TS Tryz.underlying141 6 rfl rfl rfl (by conv => lhs; whnf) H (fun w H => ?_))
          rw [show (Value.map (some m53)) = pI ((m53, []) : Nat × List (Lk × Int)) from rfl, aset_g pI] at H
          refine ⟨⟨trivial, ⟨trivial, ⟨trivial, ⟨trivial, ⟨trivial, ⟨trivial, trivial⟩⟩⟩⟩⟩⟩, ?_⟩
          show _
          refine WC.seq ?_
          obtain ⟨hk1, hlk1, hol1, hto1⟩ := lk_new (m := m53) hol hCl.okl
          have H := IM.add (k := e.src) (m := m53) (row := ([] : List (Lk × Int))) hol.symm (Hd.arrT [_, _, _, _, _, _, _, _, _, _] [0, 7, 1, 2, 3, 4, 5, 6, 8, 9] (by decide) rfl H)
          obtain ⟨lk1, hq1⟩ : ∃ l1, l1 = gset e.src (m53, ([] : List (Lk × Int))) lk := ⟨_, rfl⟩
          rw [← hq1] at hk1 hlk1 hol1 hto1
          have H := Hd.eqIM hq1 H
          have H := Hd.eqMp hq1 (Hd.arrT [_, _, _, _, _, _, _, _, _] [6, 0, 1, 2, 3, 4, 5, 7, 8] (by decide) rfl H)
          obtain ⟨m1, hm1⟩ : ∃ m1, m1 = m53 := ⟨_, rfl⟩
          obtain ⟨row1, hr1⟩ : ∃ r : List (Lk × Int), r = [] := ⟨_, rfl⟩
          rw [← hm1, ← hr1] at hk1
          obtain ⟨rst, H, hcl, -⟩ := IM.focus hk1 (Hd.arrT [_, _, _, _, _, _, _, _, _] [1, 0, 2, 3, 4, 5, 6, 7, 8] (by decide) rfl H)
          refine WC.draw mixed [14] [[], [0], [0, 1], [0, 1, 2], [], [4], [0, 1, 2, 3, 4, 5], [], [7], [], [9], [7, 8, 9, 10], [], [12], [0, 1, 2, 3, 4, 5, 6, 7, 8, 9, 10, 11, 12, 13]] [0, 1, 2, 3, 4, 5, 6, 7, 8, 9, 10, 11, 12, 13, 14] (by kernel_rfl) ?_
          have H := H.drew
          refine k_rd rfl rfl (RS.of rfl rfl (x_load Tryz.underlying74 rfl rfl (H.cellL 5 rfl rfl))) ?_
          refine k_rd rfl rfl (RS.of rfl rfl (x_nilCheck rfl)) ?_
          refine k_rd rfl rfl (RS.of rfl rfl (x_fieldAddr (k := 2) Tryz.underlying143 rfl rfl ty141 (by decide) rfl)) ?_
          refine k_rd rfl rfl (RS.of rfl rfl (x_load Tryz.underlying141 rfl rfl (H.cellL 3 rfl rfl))) ?_
          refine k_rd rfl rfl (RS.of rfl rfl (x_fieldAddr (k := 0) Tryz.underlying35 rfl rfl ty9 (by decide) rfl)) ?_
          refine k_rd rfl rfl (RS.of rfl rfl (x_load Tryz.underlying9 rfl rfl (H.cellL 4 rfl rfl))) ?_
          refine k_rd rfl rfl (RS.of rfl rfl (x_lookM TS Tryz.underlying141 ty154 rfl rfl H 2 rfl (show _ = Value.map (some m1) from lk_pt.trans (by rw [hk1]; rfl)))) ?_
          refine k_rd rfl rfl (RS.of rfl rfl (x_fieldAddr (k := 1) Tryz.underlying35 rfl rfl ty9 (by decide) rfl)) ?_
          refine k_rd rfl rfl (RS.of rfl rfl (x_load Tryz.underlying9 rfl rfl (H.cellL 4 rfl rfl))) ?_
          refine k_rd rfl rfl (RS.of rfl rfl (x_fieldAddr (k := 2) Tryz.underlying35 rfl rfl ty9 (by decide) rfl)) ?_
          refine k_rd rfl rfl (RS.of rfl rfl (x_load Tryz.underlying9 rfl rfl (H.cellL 4 rfl rfl))) ?_
          refine k_rd rfl rfl (RS.of rfl rfl (x_buildL (pl := [(0, 1), (1, 1)]) (cells := [S e.dst, S e.lab]) Tryz.underlying148 ty148 (by kernel_rfl) rfl)) ?_
          refine k_rd rfl rfl (RS.of rfl rfl (x_fieldAddr (k := 3) Tryz.underlying35 rfl rfl ty3 (by decide) rfl)) ?_
          refine k_rd rfl rfl (RS.of rfl rfl (x_load Tryz.underlying3 rfl rfl (H.cellL 4 rfl rfl))) ?_
          refine k_no rfl rfl rfl (s_mapUpdate (k := (e.dst, e.lab)) TLk Tryz.underlying154 0 rfl rfl rfl (by conv => lhs; whnf) H (fun w H => ?_))
          rw [aset_g I] at H
          refine ⟨⟨trivial, ⟨trivial, ⟨trivial, ⟨trivial, ⟨trivial, ⟨trivial, ⟨trivial, ⟨trivial, ⟨trivial, ⟨trivial, ⟨trivial, ⟨trivial, ⟨trivial, ⟨trivial, trivial⟩⟩⟩⟩⟩⟩⟩⟩⟩⟩⟩⟩⟩⟩, ?_⟩
          show _
          refine WC.seq ?_
          have H := hcl _ _ _ (Hd.arrT [_, _, _, _, _, _, _, _, _, _] [0, 1, 2, 3, 4, 5, 6, 7, 8, 9] (by decide) rfl H)
          obtain ⟨lk2, hq2⟩ : ∃ l2, l2 = gset e.src (m1, gset (e.dst, e.lab) e.time row1) lk1 := ⟨_, rfl⟩
          obtain ⟨hlk2, hol2, hto2⟩ := lk_put hk1 hol1 hlk1 hto1
          rw [← hq2] at hlk2 hol2 hto2
          have H := Hd.eqIM hq2 H
          have H := Hd.eqMp2 hq2 hk1 (Hd.arrT [_, _, _, _, _, _, _, _, _] [1, 0, 2, 3, 4, 5, 6, 7, 8] (by decide) rfl H)
          have hP := hCl.pre h24 h32 hlk2
          refine WC.region ?_
          refine l_st rfl (s_makeMap H (fun m68 w H => ?_))
          have H := Hd.weak H (Mp.made TPq)
          refine l_st rfl (s_alloc ty155 H fun b7 w H => ?_)
          refine l_no (s_st 0 rfl ty155 rfl (by conv => lhs; whnf) rfl rfl H fun w H => ?_)
          refine WL.nil ?_
          refine WC.seq ?_
          refine WC.seq ?_
          refine WC.region ?_
          refine l_rd rfl rfl (x_load Tryz.underlying74 rfl rfl (H.cellL 6 rfl rfl)) ?_
          refine l_st rfl (s_callL cal78 (c78 _ hE hA hCl.okn (Hd.arrT [_, _, _, _, _, _, _, _, _, _, _] [4, 7, 8, 2, 3, 9, 0, 1, 5, 6, 10] (by decide) rfl H)) ?_)
          rintro v70 w ⟨b1, m7, al, rfl, hT, H⟩
          have hlen := hT.len (E := E) (by omega) hCl.fin
          refine WL.nil ?_
          refine WC.block ?_
          have H := PX.mk (α := List (Pq × Int)) (φ := fun wl => WasI A n [] wl) (A := fun wl => [pt b7 (.cells #[.map (some m68)] 155 (0, 0)), Mp TPq m68 (wl.map (gval I)), pt b2 (.cells #[.pointer (some ⟨f, 0, none⟩)] 74 (0, 0)), pt f (.cells (foC a mn ml cut e.time).toArray 143 (0, 0)), Mp TSp mn (n.map (gval pI)), IM TS I n, Mp TS ml (lk2.map (gval pI)), IM TLk I lk2, fz g]) [] (WasI.nil A n) (Hd.arrT [_, _, _, _, _, _, _, _, _, _, _, _, _] [8, 9, 11, 2, 3, 4, 5, 6, 7, 0, 1, 10, 12] (by decide) rfl H)
          have H := Hd.starAt [_] H
          refine WC.rangeFnA (P := Tryz.prog) (caps := [.pointer (some ⟨b1, 0, none⟩)]) (E := ePq) (ok := okX (al.map (·.1))) (fin := finX (al.map (·.1))) (A := _) (B := _) (I := fun pre => PX (α := List (Pq × Int)) (fun wl => WasI A n pre wl) (fun wl => [pt b7 (.cells #[.map (some m68)] 155 (0, 0)), Mp TPq m68 (wl.map (gval I)), pt b2 (.cells #[.pointer (some ⟨f, 0, none⟩)] 74 (0, 0)), pt f (.cells (foC a mn ml cut e.time).toArray 143 (0, 0)), Mp TSp mn (n.map (gval pI)), IM TS I n, Mp TS ml (lk2.map (gval pI)), IM TLk I lk2, fz g])) (X := fun _ _ => fun _ => False) rfl cal152 (by decide) (fun x vs h hv => by have : vs = _ := hv; rw [this]; rfl) (it152 (b1 := b1) (m := m7) (row := al)) H ?_ ?_ ?_
          ·
            intro l pre x vs w L' L2 hok hrec H
            obtain ⟨hh, _, hvs⟩ := H.fact_at 1 rfl
            have hvs : vs = [.agg #[S x.1, S x.2]] := hvs
            subst hvs
            refine WC.region ?_
            refine l_st rfl (s_alloc ty160 H fun b8 w H => ?_)
            refine l_no (s_stA 0 rfl ty160 rfl (by conv => lhs; whnf) rfl rfl rfl H fun w H => ?_)
            refine WL.nil ?_
            refine ⟨⟨[_, _, _], H⟩, fun w2 hw2 => ?_⟩
            clear hrec
            have H := Hd.arrT [_, _, _] [1, 0] (by decide) rfl (hw2 [_, _, _] H)
            clear hw2
            obtain ⟨wl, hwl, H⟩ := PX.opn H
            refine WC.block ?_
            refine WC.draw mixed [4, 5] [[], [], [], [], [2, 3], [0, 1, 2, 3, 4]] [0, 1, 2, 3, 4, 5] (by kernel_rfl) ?_
            have H := H.drew
            refine k_rd rfl rfl (RS.of rfl rfl (x_load Tryz.underlying155 rfl rfl (H.cellL 0 rfl rfl))) ?_
            refine k_rd rfl rfl (RS.of rfl rfl (x_loadF (vs := [_, _]) Tryz.underlying160 rfl ty160 rfl rfl (H.cellsL 9 rfl rfl))) ?_
            refine k_rd rfl rfl (RS.of rfl rfl (x_load Tryz.underlying74 rfl rfl (H.cellL 2 rfl rfl))) ?_
            refine k_rd rfl rfl (RS.of rfl rfl (x_loadF (vs := [_, _]) Tryz.underlying160 rfl ty160 rfl rfl (H.cellsL 9 rfl rfl))) ?_
            refine k_st rfl rfl rfl (s_callL cal79 (c79 hE _ (FoL.rdc hA (Hd.arrT [_, _, _, _, _, _, _, _, _, _] [3, 4, 5, 6, 7, 8, 0, 1, 2, 9] (by decide) rfl H))) ?_)
            rintro _ w ⟨rfl, e1⟩
            have H := H.ext e1
            refine ⟨⟨trivial, ⟨trivial, ⟨RS.of rfl rfl (x_loadF (vs := [_, _]) Tryz.underlying160 rfl ty160 rfl rfl (H.cellsL 9 rfl rfl)), ⟨RS.of rfl rfl (x_load Tryz.underlying155 rfl rfl (H.cellL 0 rfl rfl)), trivial⟩⟩⟩⟩, ?_⟩
            refine k_no rfl rfl rfl (s_mapUpdate (k := x) TPq Tryz.underlying155 1 rfl rfl rfl (by conv => lhs; whnf) H (fun w H => ?_))
            rw [aset_g I] at H
            refine ⟨⟨trivial, ⟨trivial, ⟨trivial, ⟨trivial, trivial⟩⟩⟩⟩, ?_⟩
            show _
            exact PX.mk _ hwl.next (Hd.arrT [_, _, _, _, _, _, _, _, _, _] [0, 1, 2, 3, 4, 5, 6, 7, 8] (by decide) rfl H)
          ·
            intro w m xs hfin H
            obtain ⟨wl, hwl, H⟩ := PX.opn H
            refine WC.seq ?_
            refine WC.region ?_
            refine l_rd rfl rfl (x_load Tryz.underlying74 rfl rfl (H.cellL 2 rfl rfl)) ?_
            refine l_rd rfl rfl (x_loadF (vs := [_, _, _, _, _]) Tryz.underlying35 rfl ty35 rfl rfl (H.cellsL 11 rfl rfl)) ?_
            refine l_st rfl (s_callL cal80 (c80 _ hE hAt hA hP hol2 (by rw [List.length_cons]; omega) (by rw [edgs_len]; omega) hpv (Hd.arrT [_, _, _, _, _, _, _, _, _, _, _, _, _] [3, 4, 5, 6, 7, 8, 0, 1, 2, 9, 10, 11, 12] (by decide) rfl H)) ?_)
            rintro v79 w ⟨n2, met, mm, rfl, hG, H⟩
            have hml := hG.mlen (by rw [List.length_cons]; omega)
            have hCl2 := hG.cl_ hol2 hP.lnk (hCl.lst2 h24)
            refine l_rd rfl rfl (x_assign (by conv => lhs; whnf)) ?_
            refine WL.nil ?_
            refine WC.seq ?_
            refine WC.region ?_
            refine l_rd rfl rfl (x_move (by conv => lhs; whnf)) ?_
            refine l_rd rfl rfl (x_makeFuncL) ?_
            refine l_st rfl (s_callL cal81 (c81 (A := KE.sep [pt b7 (.cells #[.map (some m68)] 155 (0, 0)), Mp TPq m68 (wl.map (gval I)), pt b2 (.cells #[.pointer (some ⟨f, 0, none⟩)] 74 (0, 0)), pt f (.cells (foC a mn ml cut e.time).toArray 143 (0, 0)), Mp TSp mn (n2.map (gval pI)), IM TS I n2, Mp TS ml (lk2.map (gval pI)), IM TLk I lk2, fz g]) (p := fun q => metP wl A n2 q.1) (caps := [.pointer (some ⟨b7, 0, none⟩), .pointer (some ⟨b2, 0, none⟩)]) _ hG.nd cal82 (fun x hx w1 L1 H1 => by
                have H1 := Hd.unsep (A := [pt b7 (.cells #[.map (some m68)] 155 (0, 0)), Mp TPq m68 (wl.map (gval I)), pt b2 (.cells #[.pointer (some ⟨f, 0, none⟩)] 74 (0, 0)), pt f (.cells (foC a mn ml cut e.time).toArray 143 (0, 0)), Mp TSp mn (n2.map (gval pI)), IM TS I n2, Mp TS ml (lk2.map (gval pI)), IM TLk I lk2, fz g]) H1
                exact c82 hE _ (H1.obj 0 rfl) (H1.obj 2 rfl) (Mp.rdH H1 1 rfl) (FoL.rdc hA (Hd.arrT [_, _, _, _, _, _, _, _, _] [3, 4, 5, 6, 7, 8] (by decide) rfl H1))) (Hd.swp (Hd.sep (A := [pt b7 (.cells #[.map (some m68)] 155 (0, 0)), Mp TPq m68 (wl.map (gval I)), pt b2 (.cells #[.pointer (some ⟨f, 0, none⟩)] 74 (0, 0)), pt f (.cells (foC a mn ml cut e.time).toArray 143 (0, 0)), Mp TSp mn (n2.map (gval pI)), IM TS I n2, Mp TS ml (lk2.map (gval pI)), IM TLk I lk2, fz g]) (Hd.arrT [_, _, _, _, _, _, _, _, _, _, _, _, _, _] [7, 8, 9, 1, 2, 3, 4, 5, 6, 0, 10, 11, 12, 13] (by decide) rfl H)))) ?_)
            rintro _ w ⟨rfl, met2, hnd2, hm2, H⟩
            have H := Hd.unsep (A := [pt b7 (.cells #[.map (some m68)] 155 (0, 0)), Mp TPq m68 (wl.map (gval I)), pt b2 (.cells #[.pointer (some ⟨f, 0, none⟩)] 74 (0, 0)), pt f (.cells (foC a mn ml cut e.time).toArray 143 (0, 0)), Mp TSp mn (n2.map (gval pI)), IM TS I n2, Mp TS ml (lk2.map (gval pI)), IM TLk I lk2, fz g]) (Hd.swp H)
            have hml2 := nd_len (K := met) hnd2 fun x hx => ((hm2 x).1 hx).1
            refine WL.nil ?_
            refine WC.seq ?_
            refine WC.draw mixed [2, 3] [[], [], [1], [0, 1, 2], [0, 1, 2, 3], [0, 1, 2, 3, 4]] [0, 1, 2, 3, 4, 5] (by kernel_rfl) ?_
            have H := H.drew
            refine k_rd rfl rfl (RS.of rfl rfl (x_load Tryz.underlying74 rfl rfl (H.cellL 2 rfl rfl))) ?_
            refine k_rd rfl rfl (RS.of rfl rfl (x_move (by conv => lhs; whnf))) ?_
            refine k_st rfl rfl rfl (s_callL cal84 (c84 _ H) ?_)
            rintro v85 w ⟨b85, rfl, H⟩
            refine ⟨⟨trivial, ⟨RS.of rfl rfl (x_load Tryz.underlying74 rfl rfl (H.cellL 3 rfl rfl)), trivial⟩⟩, ?_⟩
            refine k_st rfl rfl rfl (s_callL cal83 (c83 _ hE hA cal152 (it152 (row := met2)) (fun pre x h => by have := h.len; rw [List.length_map] at this; omega) (Hd.star (Hd.arrT [_, _, _, _, _, _, _, _, _, _, _, _, _, _, _] [0, 10, 4, 5, 6, 7, 8, 9, 1, 2, 3, 11, 12, 13, 14] (by decide) rfl H))) ?_)
            rintro v86 w ⟨xs2, l3, hfx, hp3, hs3, H⟩
            refine ⟨⟨trivial, ⟨trivial, trivial⟩⟩, ?_⟩
            refine k_rd rfl rfl (RS.of rfl rfl (x_assign (by conv => lhs; whnf))) ?_
            refine k_rd rfl rfl (RS.of rfl rfl (x_assign ev_c)) ?_
            show _
            refine WC.ret ?_
            refine atRet ?_
            refine RetM.mark H (i := 12) rfl (fun w H => ?_)
            exact RetM.two rfl (by (conv => lhs; whnf); try rfl) (by (conv => lhs; whnf); try rfl) (⟨_, _, rfl, .inr ⟨rfl, n2, lk2, l3, h24, h32, h16, hCl2, hlk2, hto2, told_shw hcut hP.fin hG hT hfin hwl hnd2 hm2 hfx hp3 hs3, Sl.reN (by rw [hp3.length_eq, List.length_map]) (Hd.arrT [_, _, _, _, _, _, _, _, _, _, _, _, _, _, _] [0, 2, 3, 4, 5, 6, 7, 14] (by decide) rfl H)⟩⟩)
          ·
            intro w m c pre x hok H
            obtain ⟨hh, _, hF⟩ := H.fact_at 0 rfl
            exact hF.elim
        ·
          refine WC.draw mixed [] [[], [0], [0, 1], [0, 1, 2], [], [4], [0, 1, 2, 3, 4, 5], [0, 1, 2, 3, 4, 5, 6]] [0, 1, 2, 3, 4, 5, 6, 7] (by kernel_rfl) ?_
          have H := H.drew
          refine k_rd rfl rfl (RS.of rfl rfl (x_load Tryz.underlying74 rfl rfl (H.cellL 2 rfl rfl))) ?_
          refine k_rd rfl rfl (RS.of rfl rfl (x_nilCheck rfl)) ?_
          refine k_rd rfl rfl (RS.of rfl rfl (x_fieldAddr (k := 2) Tryz.underlying143 rfl rfl ty141 (by decide) rfl)) ?_
          refine k_rd rfl rfl (RS.of rfl rfl (x_load Tryz.underlying141 rfl rfl (H.cellL 0 rfl rfl))) ?_
          refine k_rd rfl rfl (RS.of rfl rfl (x_fieldAddr (k := 0) Tryz.underlying35 rfl rfl ty9 (by decide) rfl)) ?_
          refine k_rd rfl rfl (RS.of rfl rfl (x_load Tryz.underlying9 rfl rfl (H.cellL 1 rfl rfl))) ?_
          refine k_rd rfl rfl (RS.of rfl rfl (x_lookM TS Tryz.underlying141 ty154 rfl rfl H 5 rfl (show _ = Value.map (some m1) from lk_pt.trans (by rw [← hol]; rfl)))) ?_
          refine k_rd rfl rfl (RS.of rfl rfl ((x_eqlM (o := (some (m1, row1))) Tryz.underlying154 rfl).trans (by rw [decide_eq_false (fun h => by cases h)]))) ?_
          show _
          refine WC.cond0 rfl ?_
          refine WC.skip ?_
          refine WC.seq ?_
          obtain ⟨lk1, hq1⟩ : ∃ l1, l1 = lk := ⟨_, rfl⟩
          have hk1 : glook e.src lk1 = some (m1, row1) := by rw [hq1]; exact hol.symm
          have hlk1 : ∀ v to lab, lnkT lk1 v to lab = lnkT lk v to lab := fun _ _ _ => by rw [hq1]
          have hol1 : okN2 lk1 := hq1 ▸ hCl.okl
          have hto1 : tot lk1 = tot lk := by rw [hq1]
          have H := Hd.eqMp hq1 (Hd.swp (Hd.eqIM hq1 (Hd.arrT [_, _, _, _, _, _, _, _, _] [6, 5, 0, 1, 2, 3, 4, 7, 8] (by decide) rfl H)))
          obtain ⟨rst, H, hcl, -⟩ := IM.focus hk1 (Hd.arrT [_, _, _, _, _, _, _, _, _] [1, 0, 2, 3, 4, 5, 6, 7, 8] (by decide) rfl H)
          refine WC.draw mixed [14] [[], [0], [0, 1], [0, 1, 2], [], [4], [0, 1, 2, 3, 4, 5], [], [7], [], [9], [7, 8, 9, 10], [], [12], [0, 1, 2, 3, 4, 5, 6, 7, 8, 9, 10, 11, 12, 13]] [0, 1, 2, 3, 4, 5, 6, 7, 8, 9, 10, 11, 12, 13, 14] (by kernel_rfl) ?_
          have H := H.drew
          refine k_rd rfl rfl (RS.of rfl rfl (x_load Tryz.underlying74 rfl rfl (H.cellL 5 rfl rfl))) ?_
          refine k_rd rfl rfl (RS.of rfl rfl (x_nilCheck rfl)) ?_
          refine k_rd rfl rfl (RS.of rfl rfl (x_fieldAddr (k := 2) Tryz.underlying143 rfl rfl ty141 (by decide) rfl)) ?_
          refine k_rd rfl rfl (RS.of rfl rfl (x_load Tryz.underlying141 rfl rfl (H.cellL 3 rfl rfl))) ?_
          refine k_rd rfl rfl (RS.of rfl rfl (x_fieldAddr (k := 0) Tryz.underlying35 rfl rfl ty9 (by decide) rfl)) ?_
          refine k_rd rfl rfl (RS.of rfl rfl (x_load Tryz.underlying9 rfl rfl (H.cellL 4 rfl rfl))) ?_
          refine k_rd rfl rfl (RS.of rfl rfl (x_lookM TS Tryz.underlying141 ty154 rfl rfl H 2 rfl (show _ = Value.map (some m1) from lk_pt.trans (by rw [hk1]; rfl)))) ?_
          refine k_rd rfl rfl (RS.of rfl rfl (x_fieldAddr (k := 1) Tryz.underlying35 rfl rfl ty9 (by decide) rfl)) ?_
          refine k_rd rfl rfl (RS.of rfl rfl (x_load Tryz.underlying9 rfl rfl (H.cellL 4 rfl rfl))) ?_
          refine k_rd rfl rfl (RS.of rfl rfl (x_fieldAddr (k := 2) Tryz.underlying35 rfl rfl ty9 (by decide) rfl)) ?_
          refine k_rd rfl rfl (RS.of rfl rfl (x_load Tryz.underlying9 rfl rfl (H.cellL 4 rfl rfl))) ?_
          refine k_rd rfl rfl (RS.of rfl rfl (x_buildL (pl := [(0, 1), (1, 1)]) (cells := [S e.dst, S e.lab]) Tryz.underlying148 ty148 (by kernel_rfl) rfl)) ?_
          refine k_rd rfl rfl (RS.of rfl rfl (x_fieldAddr (k := 3) Tryz.underlying35 rfl rfl ty3 (by decide) rfl)) ?_
          refine k_rd rfl rfl (RS.of rfl rfl (x_load Tryz.underlying3 rfl rfl (H.cellL 4 rfl rfl))) ?_
          refine k_no rfl rfl rfl (s_mapUpdate (k := (e.dst, e.lab)) TLk Tryz.underlying154 0 rfl rfl rfl (by conv => lhs; whnf) H (fun w H => ?_))
          rw [aset_g I] at H
          refine ⟨⟨trivial, ⟨trivial, ⟨trivial, ⟨trivial, ⟨trivial, ⟨trivial, ⟨trivial, ⟨trivial, ⟨trivial, ⟨trivial, ⟨trivial, ⟨trivial, ⟨trivial, ⟨trivial, trivial⟩⟩⟩⟩⟩⟩⟩⟩⟩⟩⟩⟩⟩⟩, ?_⟩
          show _
          refine WC.seq ?_
          have H := hcl _ _ _ (Hd.arrT [_, _, _, _, _, _, _, _, _, _] [0, 1, 2, 3, 4, 5, 6, 7, 8, 9] (by decide) rfl H)
          obtain ⟨lk2, hq2⟩ : ∃ l2, l2 = gset e.src (m1, gset (e.dst, e.lab) e.time row1) lk1 := ⟨_, rfl⟩
          obtain ⟨hlk2, hol2, hto2⟩ := lk_put hk1 hol1 hlk1 hto1
          rw [← hq2] at hlk2 hol2 hto2
          have H := Hd.eqIM hq2 H
          have H := Hd.eqMp2 hq2 hk1 (Hd.arrT [_, _, _, _, _, _, _, _, _] [1, 0, 2, 3, 4, 5, 6, 7, 8] (by decide) rfl H)
          have hP := hCl.pre h24 h32 hlk2
          refine WC.region ?_
          refine l_st rfl (s_makeMap H (fun m68 w H => ?_))
          have H := Hd.weak H (Mp.made TPq)
          refine l_st rfl (s_alloc ty155 H fun b7 w H => ?_)
          refine l_no (s_st 0 rfl ty155 rfl (by conv => lhs; whnf) rfl rfl H fun w H => ?_)
          refine WL.nil ?_
          refine WC.seq ?_
          refine WC.seq ?_
          refine WC.region ?_
          refine l_rd rfl rfl (x_load Tryz.underlying74 rfl rfl (H.cellL 6 rfl rfl)) ?_
          refine l_st rfl (s_callL cal78 (c78 _ hE hA hCl.okn (Hd.arrT [_, _, _, _, _, _, _, _, _, _, _] [4, 7, 8, 2, 3, 9, 0, 1, 5, 6, 10] (by decide) rfl H)) ?_)
          rintro v70 w ⟨b1, m7, al, rfl, hT, H⟩
          have hlen := hT.len (E := E) (by omega) hCl.fin
          refine WL.nil ?_
          refine WC.block ?_
          have H := PX.mk (α := List (Pq × Int)) (φ := fun wl => WasI A n [] wl) (A := fun wl => [pt b7 (.cells #[.map (some m68)] 155 (0, 0)), Mp TPq m68 (wl.map (gval I)), pt b2 (.cells #[.pointer (some ⟨f, 0, none⟩)] 74 (0, 0)), pt f (.cells (foC a mn ml cut e.time).toArray 143 (0, 0)), Mp TSp mn (n.map (gval pI)), IM TS I n, Mp TS ml (lk2.map (gval pI)), IM TLk I lk2, fz g]) [] (WasI.nil A n) (Hd.arrT [_, _, _, _, _, _, _, _, _, _, _, _, _] [8, 9, 11, 2, 3, 4, 5, 6, 7, 0, 1, 10, 12] (by decide) rfl H)
          have H := Hd.starAt [_] H
          refine WC.rangeFnA (P := Tryz.prog) (caps := [.pointer (some ⟨b1, 0, none⟩)]) (E := ePq) (ok := okX (al.map (·.1))) (fin := finX (al.map (·.1))) (A := _) (B := _) (I := fun pre => PX (α := List (Pq × Int)) (fun wl => WasI A n pre wl) (fun wl => [pt b7 (.cells #[.map (some m68)] 155 (0, 0)), Mp TPq m68 (wl.map (gval I)), pt b2 (.cells #[.pointer (some ⟨f, 0, none⟩)] 74 (0, 0)), pt f (.cells (foC a mn ml cut e.time).toArray 143 (0, 0)), Mp TSp mn (n.map (gval pI)), IM TS I n, Mp TS ml (lk2.map (gval pI)), IM TLk I lk2, fz g])) (X := fun _ _ => fun _ => False) rfl cal152 (by decide) (fun x vs h hv => by have : vs = _ := hv; rw [this]; rfl) (it152 (b1 := b1) (m := m7) (row := al)) H ?_ ?_ ?_
          ·
            intro l pre x vs w L' L2 hok hrec H
            obtain ⟨hh, _, hvs⟩ := H.fact_at 1 rfl
            have hvs : vs = [.agg #[S x.1, S x.2]] := hvs
            subst hvs
            refine WC.region ?_
            refine l_st rfl (s_alloc ty160 H fun b8 w H => ?_)
            refine l_no (s_stA 0 rfl ty160 rfl (by conv => lhs; whnf) rfl rfl rfl H fun w H => ?_)
            refine WL.nil ?_
            refine ⟨⟨[_, _, _], H⟩, fun w2 hw2 => ?_⟩
            clear hrec
            have H := Hd.arrT [_, _, _] [1, 0] (by decide) rfl (hw2 [_, _, _] H)
            clear hw2
            obtain ⟨wl, hwl, H⟩ := PX.opn H
            refine WC.block ?_
            refine WC.draw mixed [4, 5] [[], [], [], [], [2, 3], [0, 1, 2, 3, 4]] [0, 1, 2, 3, 4, 5] (by kernel_rfl) ?_
            have H := H.drew
            refine k_rd rfl rfl (RS.of rfl rfl (x_load Tryz.underlying155 rfl rfl (H.cellL 0 rfl rfl))) ?_
            refine k_rd rfl rfl (RS.of rfl rfl (x_loadF (vs := [_, _]) Tryz.underlying160 rfl ty160 rfl rfl (H.cellsL 9 rfl rfl))) ?_
            refine k_rd rfl rfl (RS.of rfl rfl (x_load Tryz.underlying74 rfl rfl (H.cellL 2 rfl rfl))) ?_
            refine k_rd rfl rfl (RS.of rfl rfl (x_loadF (vs := [_, _]) Tryz.underlying160 rfl ty160 rfl rfl (H.cellsL 9 rfl rfl))) ?_
            refine k_st rfl rfl rfl (s_callL cal79 (c79 hE _ (FoL.rdc hA (Hd.arrT [_, _, _, _, _, _, _, _, _, _] [3, 4, 5, 6, 7, 8, 0, 1, 2, 9] (by decide) rfl H))) ?_)
            rintro _ w ⟨rfl, e1⟩
            have H := H.ext e1
            refine ⟨⟨trivial, ⟨trivial, ⟨RS.of rfl rfl (x_loadF (vs := [_, _]) Tryz.underlying160 rfl ty160 rfl rfl (H.cellsL 9 rfl rfl)), ⟨RS.of rfl rfl (x_load Tryz.underlying155 rfl rfl (H.cellL 0 rfl rfl)), trivial⟩⟩⟩⟩, ?_⟩
            refine k_no rfl rfl rfl (s_mapUpdate (k := x) TPq Tryz.underlying155 1 rfl rfl rfl (by conv => lhs; whnf) H (fun w H => ?_))
            rw [aset_g I] at H
            refine ⟨⟨trivial, ⟨trivial, ⟨trivial, ⟨trivial, trivial⟩⟩⟩⟩, ?_⟩
            show _
            exact PX.mk _ hwl.next (Hd.arrT [_, _, _, _, _, _, _, _, _, _] [0, 1, 2, 3, 4, 5, 6, 7, 8] (by decide) rfl H)
          ·
            intro w m xs hfin H
            obtain ⟨wl, hwl, H⟩ := PX.opn H
            refine WC.seq ?_
            refine WC.region ?_
            refine l_rd rfl rfl (x_load Tryz.underlying74 rfl rfl (H.cellL 2 rfl rfl)) ?_
            refine l_rd rfl rfl (x_loadF (vs := [_, _, _, _, _]) Tryz.underlying35 rfl ty35 rfl rfl (H.cellsL 11 rfl rfl)) ?_
            refine l_st rfl (s_callL cal80 (c80 _ hE hAt hA hP hol2 (by rw [List.length_cons]; omega) (by rw [edgs_len]; omega) hpv (Hd.arrT [_, _, _, _, _, _, _, _, _, _, _, _, _] [3, 4, 5, 6, 7, 8, 0, 1, 2, 9, 10, 11, 12] (by decide) rfl H)) ?_)
            rintro v79 w ⟨n2, met, mm, rfl, hG, H⟩
            have hml := hG.mlen (by rw [List.length_cons]; omega)
            have hCl2 := hG.cl_ hol2 hP.lnk (hCl.lst2 h24)
            refine l_rd rfl rfl (x_assign (by conv => lhs; whnf)) ?_
            refine WL.nil ?_
            refine WC.seq ?_
            refine WC.region ?_
            refine l_rd rfl rfl (x_move (by conv => lhs; whnf)) ?_
            refine l_rd rfl rfl (x_makeFuncL) ?_
            refine l_st rfl (s_callL cal81 (c81 (A := KE.sep [pt b7 (.cells #[.map (some m68)] 155 (0, 0)), Mp TPq m68 (wl.map (gval I)), pt b2 (.cells #[.pointer (some ⟨f, 0, none⟩)] 74 (0, 0)), pt f (.cells (foC a mn ml cut e.time).toArray 143 (0, 0)), Mp TSp mn (n2.map (gval pI)), IM TS I n2, Mp TS ml (lk2.map (gval pI)), IM TLk I lk2, fz g]) (p := fun q => metP wl A n2 q.1) (caps := [.pointer (some ⟨b7, 0, none⟩), .pointer (some ⟨b2, 0, none⟩)]) _ hG.nd cal82 (fun x hx w1 L1 H1 => by
                have H1 := Hd.unsep (A := [pt b7 (.cells #[.map (some m68)] 155 (0, 0)), Mp TPq m68 (wl.map (gval I)), pt b2 (.cells #[.pointer (some ⟨f, 0, none⟩)] 74 (0, 0)), pt f (.cells (foC a mn ml cut e.time).toArray 143 (0, 0)), Mp TSp mn (n2.map (gval pI)), IM TS I n2, Mp TS ml (lk2.map (gval pI)), IM TLk I lk2, fz g]) H1
                exact c82 hE _ (H1.obj 0 rfl) (H1.obj 2 rfl) (Mp.rdH H1 1 rfl) (FoL.rdc hA (Hd.arrT [_, _, _, _, _, _, _, _, _] [3, 4, 5, 6, 7, 8] (by decide) rfl H1))) (Hd.swp (Hd.sep (A := [pt b7 (.cells #[.map (some m68)] 155 (0, 0)), Mp TPq m68 (wl.map (gval I)), pt b2 (.cells #[.pointer (some ⟨f, 0, none⟩)] 74 (0, 0)), pt f (.cells (foC a mn ml cut e.time).toArray 143 (0, 0)), Mp TSp mn (n2.map (gval pI)), IM TS I n2, Mp TS ml (lk2.map (gval pI)), IM TLk I lk2, fz g]) (Hd.arrT [_, _, _, _, _, _, _, _, _, _, _, _, _, _] [7, 8, 9, 1, 2, 3, 4, 5, 6, 0, 10, 11, 12, 13] (by decide) rfl H)))) ?_)
            rintro _ w ⟨rfl, met2, hnd2, hm2, H⟩
            have H := Hd.unsep (A := [pt b7 (.cells #[.map (some m68)] 155 (0, 0)), Mp TPq m68 (wl.map (gval I)), pt b2 (.cells #[.pointer (some ⟨f, 0, none⟩)] 74 (0, 0)), pt f (.cells (foC a mn ml cut e.time).toArray 143 (0, 0)), Mp TSp mn (n2.map (gval pI)), IM TS I n2, Mp TS ml (lk2.map (gval pI)), IM TLk I lk2, fz g]) (Hd.swp H)
            have hml2 := nd_len (K := met) hnd2 fun x hx => ((hm2 x).1 hx).1
            refine WL.nil ?_
            refine WC.seq ?_
            refine WC.draw mixed [2, 3] [[], [], [1], [0, 1, 2], [0, 1, 2, 3], [0, 1, 2, 3, 4]] [0, 1, 2, 3, 4, 5] (by kernel_rfl) ?_
            have H := H.drew
            refine k_rd rfl rfl (RS.of rfl rfl (x_load Tryz.underlying74 rfl rfl (H.cellL 2 rfl rfl))) ?_
            refine k_rd rfl rfl (RS.of rfl rfl (x_move (by conv => lhs; whnf))) ?_
            refine k_st rfl rfl rfl (s_callL cal84 (c84 _ H) ?_)
            rintro v85 w ⟨b85, rfl, H⟩
            refine ⟨⟨trivial, ⟨RS.of rfl rfl (x_load Tryz.underlying74 rfl rfl (H.cellL 3 rfl rfl)), trivial⟩⟩, ?_⟩
            refine k_st rfl rfl rfl (s_callL cal83 (c83 _ hE hA cal152 (it152 (row := met2)) (fun pre x h => by have := h.len; rw [List.length_map] at this; omega) (Hd.star (Hd.arrT [_, _, _, _, _, _, _, _, _, _, _, _, _, _, _] [0, 10, 4, 5, 6, 7, 8, 9, 1, 2, 3, 11, 12, 13, 14] (by decide) rfl H))) ?_)
            rintro v86 w ⟨xs2, l3, hfx, hp3, hs3, H⟩
            refine ⟨⟨trivial, ⟨trivial, trivial⟩⟩, ?_⟩
            refine k_rd rfl rfl (RS.of rfl rfl (x_assign (by conv => lhs; whnf))) ?_
            refine k_rd rfl rfl (RS.of rfl rfl (x_assign ev_c)) ?_
            show _
            refine WC.ret ?_
            refine atRet ?_
            refine RetM.mark H (i := 12) rfl (fun w H => ?_)
            exact RetM.two rfl (by (conv => lhs; whnf); try rfl) (by (conv => lhs; whnf); try rfl) (⟨_, _, rfl, .inr ⟨rfl, n2, lk2, l3, h24, h32, h16, hCl2, hlk2, hto2, told_shw hcut hP.fin hG hT hfin hwl hnd2 hm2 hfx hp3 hs3, Sl.reN (by rw [hp3.length_eq, List.length_map]) (Hd.arrT [_, _, _, _, _, _, _, _, _, _, _, _, _, _, _] [0, 2, 3, 4, 5, 6, 7, 14] (by decide) rfl H)⟩⟩)
          ·
            intro w m c pre x hok H
            obtain ⟨hh, _, hF⟩ := H.fact_at 0 rfl
            exact hF.elim
theorem ty74 : Ty Tryz.prog 74 (.pointer none) 1 8 := Ty.of (by kernel_rfl)
theorem cal76 : Cal Tryz.prog 76 := ⟨_, Tryz.func76, rfl, by decide⟩
theorem cal139 : Cal Tryz.prog 139 := ⟨_, Tryz.func139, rfl, by decide⟩
theorem cal193 : Cal Tryz.prog 193 := ⟨_, Tryz.func193, rfl, by decide⟩
theorem bytesLess_own : ∀ (x y : List UInt8), Op.bytesLess x y = decide (x < y)
  | [], [] => by simp [Op.bytesLess]
  | _ :: _, [] => by simp [Op.bytesLess]
  | [], _ :: _ => by simp [Op.bytesLess]
  | a :: x, b :: y => by
    rw [Op.bytesLess, bytesLess_own x y]
    by_cases h : a < b
    · simp [h, List.cons_lt_cons_iff]
    · by_cases e : a = b
      · subst e; simp [List.cons_lt_cons_iff]
      · simp [h, e, List.cons_lt_cons_iff]
theorem sLt_ul (a b : ByteArray) : sLt a b ↔ ul a < ul b := by
  unfold sLt ul
  rw [bytesLess_own, KE.toList_data, KE.toList_data, decide_eq_true_eq]
theorem sLt_of_le {a b : ByteArray} (h : ul a ≤ ul b) (hn : a ≠ b) : sLt a b := by
  rcases sLt_tri a b with h1 | h1 | h1
  · exact h1
  · exact absurd h1 hn
  · exact absurd ((sLt_ul b a).1 h1) (List.not_lt.2 h)
/-- loops: a vertex reaches itself -/
def loopT (vs : List (ByteArray × Int)) : Tm := fun p => if p.1 = p.2 then glook p.1 vs else none
def lpC (vs : List (ByteArray × Int)) (k : ByteArray) : Pc := ⟨k, k, (glook k vs).getD 0⟩
theorem lk_I {vs : List (ByteArray × Int)} {k : ByteArray} : lkV false (I 0) (alook k (vs.map (gval I))) = I ((glook k vs).getD 0) := by
  rw [alook_g]; cases glook k vs <;> rfl
theorem loop_shw {vs : List (ByteArray × Int)} {xs : List ByteArray} (hn : (vs.map (·.1)).Nodup) (hx : xs.Perm (vs.map (·.1))) : Shw ((sortS xs).map (lpC vs)) (loopT vs) := by
  have hp := (sort_perm xs).trans hx
  have hnd : (sortS xs).Nodup := hp.nodup_iff.2 hn
  have hm : ∀ k, k ∈ sortS xs ↔ ∃ t, glook k vs = some t := fun k => by
    rw [hp.mem_iff]
    constructor
    · intro h1
      obtain ⟨⟨k', v⟩, h2, rfl⟩ := List.mem_map.1 h1
      exact ⟨v, mem_glook hn h2⟩
    · rintro ⟨t, h1⟩
      exact List.mem_map.2 ⟨_, glook_mem h1, rfl⟩
  refine ⟨?_, fun p => ?_⟩
  · rw [List.pairwise_map]
    have h1 := sort_inO xs
    refine (h1.and hnd).imp fun {a b} h => ?_
    exact .inl (sLt_of_le h.1 h.2)
  · constructor
    · intro h1
      obtain ⟨k, hk, rfl⟩ := List.mem_map.1 h1
      obtain ⟨t, ht⟩ := (hm k).1 hk
      show loopT vs (k, k) = _
      unfold loopT lpC
      rw [if_pos rfl, ht]; rfl
    · intro h1
      obtain ⟨p1, p2, p3⟩ := p
      unfold loopT at h1
      split at h1
      · rename_i e
        have e : p1 = p2 := e
        subst e
        have h1 : glook p1 vs = some p3 := h1
        refine List.mem_map.2 ⟨p1, (hm p1).2 ⟨_, h1⟩, ?_⟩
        unfold lpC; rw [h1]; rfl
      · cases h1
theorem c33 {ro mv a f : Nat} {f0 : Nat × Nat} (w : World) (hr : w.heap[ro]? = some (.cells #[.map (some mv), .pointer (some ⟨a, 0, none⟩), .pointer (some ⟨f, 0, none⟩)] 81 f0)) : CC Tryz.prog 33 [.pointer (some ⟨ro, 0, none⟩)].toArray w (fun r w' => r = .bool true ∧ Ext w w') := by
  obtain ⟨w0, e0⟩ : ∃ w0, w0 = w := ⟨w, rfl⟩
  subst e0
  have H := Hd.start w0
  refine CC.of (N := 12) Tryz.func33 rfl rfl rfl ?_
  refine WC.seq ?_
  refine WC.region ?_
  refine l_rd rfl rfl (x_assign ev_c) ?_
  refine WL.nil ?_
  refine WC.seq ?_
  refine WC.region ?_
  refine l_rd rfl rfl (x_move (by conv => lhs; whnf)) ?_
  refine l_rd rfl rfl (x_neqPN Tryz.underlying29 rfl) ?_
  refine l_rd rfl rfl (x_move (by conv => lhs; whnf)) ?_
  refine l_gy (wantY rfl rfl rfl) rfl rfl (x_move (by conv => lhs; whnf)) ?_
  refine l_gy (wantY rfl rfl rfl) rfl rfl (x_nilCheck rfl) ?_
  refine l_gy (wantY rfl rfl rfl) rfl rfl (x_fieldAddr (k := 2) Tryz.underlying81 rfl rfl ty74 (by decide) rfl) ?_
  refine l_gy (wantY rfl rfl rfl) rfl rfl (x_load Tryz.underlying74 rfl rfl (cell_ofL ((H.old 0 rfl) _ _ hr) rfl)) ?_
  refine l_gy (wantY rfl rfl rfl) rfl rfl (x_neqPN Tryz.underlying74 rfl) ?_
  refine l_rd rfl rfl (x_pick1 rfl (by conv => lhs; whnf)) ?_
  refine l_rd rfl rfl (x_assign (by conv => lhs; whnf)) ?_
  refine WL.nil ?_
  refine WC.ret ?_
  refine atRet ?_
  exact RetM.one rfl (by (conv => lhs; whnf); try rfl) (⟨rfl, H.below 0 rfl⟩)
theorem c37 {ro mv a f : Nat} {f0 : Nat × Nat} {A : Gr} (w : World) (hr : w.heap[ro]? = some (.cells #[.map (some mv), .pointer (some ⟨a, 0, none⟩), .pointer (some ⟨f, 0, none⟩)] 81 f0)) (hA : AuR w a A) (hl : A.ends.length = A.rows.length) : CC Tryz.prog 37 [.pointer (some ⟨ro, 0, none⟩)].toArray w (fun r w' => r = .bool (takesA A 0) ∧ Ext w w') := by
  obtain ⟨w0, e0⟩ : ∃ w0, w0 = w := ⟨w, rfl⟩
  subst e0
  have H := Hd.start w0
  refine CC.of (N := 8) Tryz.func37 rfl rfl rfl ?_
  refine WC.seq ?_
  refine WC.region ?_
  refine l_rd rfl rfl (x_assign ev_c) ?_
  refine WL.nil ?_
  refine WC.seq ?_
  refine WC.region ?_
  refine l_rd rfl rfl (x_move (by conv => lhs; whnf)) ?_
  refine l_rd rfl rfl (x_nilCheck rfl) ?_
  refine l_rd rfl rfl (x_fieldAddr (k := 1) Tryz.underlying81 rfl rfl ty71 (by decide) rfl) ?_
  refine l_rd rfl rfl (x_load Tryz.underlying71 rfl rfl (cell_ofL ((H.old 0 rfl) _ _ hr) rfl)) ?_
  refine l_st rfl (s_callL cal53 (c53 (s := 0) _ (hA.old (H.old 0 rfl)) hl) ?_)
  rintro _ w ⟨rfl, e1⟩
  have H := H.ext e1
  refine l_rd rfl rfl (x_assign (by conv => lhs; whnf)) ?_
  refine WL.nil ?_
  refine WC.ret ?_
  refine atRet ?_
  exact RetM.one rfl (by (conv => lhs; whnf); try rfl) (⟨rfl, H.below 0 rfl⟩)
theorem c76 {b3 : Nat} {f3 : Nat × Nat} {t u : Int} {kk : ByteArray} (w : World) (h3 : w.heap[b3]? = some (.cells #[I t] 3 f3)) : CC Tryz.prog 76 [S kk, I u, .pointer (some ⟨b3, 0, none⟩)].toArray w (fun r w' => r = .bool (decide (u ≤ t)) ∧ Ext w w') := by
  obtain ⟨w0, e0⟩ : ∃ w0, w0 = w := ⟨w, rfl⟩
  subst e0
  have H := Hd.start w0
  refine CC.of (N := 9) Tryz.func76 rfl rfl rfl ?_
  refine WC.seq ?_
  refine WC.region ?_
  refine l_rd rfl rfl (x_assign ev_c) ?_
  refine WL.nil ?_
  refine WC.seq ?_
  refine WC.region ?_
  refine l_rd rfl rfl (x_move (by conv => lhs; whnf)) ?_
  refine l_rd rfl rfl (x_load Tryz.underlying3 rfl rfl (cell_ofL ((H.old 0 rfl) _ _ h3) rfl)) ?_
  refine l_rdD rfl rfl (x_leq rfl rfl) (fun h8 => ?_) (fun h8 => ?_)
  ·
    refine l_rd rfl rfl (x_assign (by conv => lhs; whnf)) ?_
    refine WL.nil ?_
    refine WC.ret ?_
    refine atRet ?_
    exact RetM.one rfl (by (conv => lhs; whnf); try rfl) (⟨by simp [h8], H.below 0 rfl⟩)
  ·
    refine l_rd rfl rfl (x_assign (by conv => lhs; whnf)) ?_
    refine WL.nil ?_
    refine WC.ret ?_
    refine atRet ?_
    exact RetM.one rfl (by (conv => lhs; whnf); try rfl) (⟨by simp [h8], H.below 0 rfl⟩)
theorem c35 {s : Sy} [NoEx s] {L : List Hp} {mv : Nat} {vs : List (ByteArray × Int)} {t : Int} (w : World) (hn : (vs.map (·.1)).Nodup) (H : Hd s w (Mp TS mv (vs.map (gval I)) :: L)) : CC Tryz.prog 35 [.agg #[.map (some mv)], I t].toArray w (fun r w' => ∃ vs' : List (ByteArray × Int), (vs'.map (·.1)).Nodup ∧ (∀ x, x ∈ vs' ↔ x ∈ vs ∧ decide (x.2 ≤ t) = false) ∧ Hd s w' (Mp TS mv (vs'.map (gval I)) :: L)) := by
  refine CC.of (N := 8) Tryz.func35 rfl rfl rfl ?_
  refine WC.seq ?_
  refine WC.region ?_
  refine l_st rfl (s_box (by conv => lhs; whnf) H fun b2 w H => ?_)
  refine l_st rfl (s_box (by conv => lhs; whnf) H fun b3 w H => ?_)
  refine WL.nil ?_
  refine WC.region ?_
  refine l_rd rfl rfl (x_fieldAddr (k := 0) Tryz.underlying79 rfl rfl ty77 (by decide) rfl) ?_
  refine l_rd rfl rfl (x_load Tryz.underlying77 rfl rfl (H.cellL 1 rfl rfl)) ?_
  refine l_rd rfl rfl (x_makeFuncL) ?_
  refine l_st rfl (s_callL cal75 (c75 (A := pt b3 (.cells #[I t] 3 (0, 0))) (p := fun q => decide (q.2 ≤ t)) (caps := [.pointer (some ⟨b3, 0, none⟩)]) _ hn cal76 (fun x hx w1 L1 H1 => c76 _ (H1.obj 0 rfl)) (Hd.arrT [_, _, _] [2, 0, 1] (by decide) rfl H)) ?_)
  rintro _ w ⟨rfl, vs2, hn2, hm2, H⟩
  refine WL.nil ?_
  refine atEnd ?_
  exact RetM.none' rfl ⟨vs2, hn2, hm2, Hd.arrT [_, _, _] [0] (by decide) rfl H⟩
theorem it193 {s : Sy} [NoEx s] {b1 m : Nat} {row : List (ByteArray × Int)} : ITa Tryz.prog s 193 [.pointer (some ⟨b1, 0, none⟩)] eS (okX (row.map (·.1))) (finX (row.map (·.1))) (star (pt b1 (.cells #[.map (some m)] 77 (0, 0))) (Mp TS m (row.map (gval I)))) (fun _ => star (pt b1 (.cells #[.map (some m)] 77 (0, 0))) (Mp TS m (row.map (gval I)))) := by
  intro l J X w L hy H
  have H := Hd.unstarAt [_] H
  refine CC.of (N := 14) Tryz.func193 rfl rfl rfl ?_
  refine WC.seq ?_
  refine WC.region ?_
  refine l_rd rfl rfl (x_load Tryz.underlying77 rfl rfl (H.cellL 1 rfl rfl)) ?_
  refine l_st rfl (s_rangeM TS Tryz.underlying77 2 rfl rfl H (fun bi w H => ?_))
  refine WL.nil ?_
  refine WC.block ?_
  refine WC.loopN (I := fun N9 ρ w => ∃ (pre : List ByteArray) (rest : List (ByteArray × Value)), N9 = rest.length ∧ (pre ++ rest.map (·.1)).Perm (row.map (·.1)) ∧ ρ 0 = .func (.yield l) #[] #[] ∧ ρ 5 = .pointer (some ⟨bi, 0, none⟩) ∧ Hd s w (J pre :: MR TS m bi (row.map (gval I)) none rest :: pt b1 (.cells #[.map (some m)] 77 (0, 0)) :: L)) (n0 := _) (⟨[], _, rfl, by rw [List.nil_append, keys_g], rfl, rfl, Hd.arrT [_, _, _] [1, 0, 2] (by decide) rfl H⟩) ?_
  repeat clear H
  rintro N9 ρ w ⟨pre, rest, hN, hp, h0, h5, H⟩
  refine WC.seq ?_
  refine WC.region ?_
  refine l_st rfl (s_nextM TS 1 rfl h5 H (fun p A B2 w hsp H => ?_) (fun hnil => ?_))
  ·
    subst hsp
    have hpm := perm_mid hp
    refine l_rd rfl rfl (x_extract rfl rfl) ?_
    refine WL.nil ?_
    refine WC.seq ?_
    refine WC.cond1 rfl ?_
    refine WC.skip ?_
    refine WC.block ?_
    refine WC.seq ?_
    refine WC.region ?_
    refine l_rd rfl rfl (x_entry TS H 1 rfl h5) ?_
    refine l_rd rfl rfl (x_extract rfl rfl) ?_
    refine l_rd rfl rfl (x_assign (by conv => lhs; whnf)) ?_
    refine WL.nil ?_
    refine WC.seq ?_
    refine WC.region ?_
    refine l_rd rfl rfl (x_move h0) ?_
    refine l_rd rfl rfl (x_move (by conv => lhs; whnf)) ?_
    have H := Hd.arrT [_, _, _] [0, 1, 2] (by decide) rfl H
    refine l_st rfl (s_yieldL rfl (hy pre p.1 [S p.1] _ _ ⟨_, hpm⟩ (Hd.swp (Hd.pure rfl H))) ?_)
    rintro v w (⟨rfl, H⟩ | ⟨rfl, H⟩)
    ·
      refine l_rd rfl rfl (x_not rfl) ?_
      refine WL.nil ?_
      refine WC.cond0 rfl ?_
      refine WC.skip ?_
      exact ⟨rfl, (A ++ B2).length, by rw [hN]; simp, pre ++ [p.1], A ++ B2, rfl, by rw [List.append_assoc]; exact hpm, h0, h5, Hd.swp (MR.rest (Hd.arrT [_, _, _] [1, 0, 2] (by decide) rfl H))⟩
    ·
      refine l_rd rfl rfl (x_not rfl) ?_
      refine WL.nil ?_
      refine WC.cond1 rfl ?_
      refine WC.ret ?_
      refine atRet ?_
      exact RetM.none' rfl (.inr ⟨pre, p.1, ⟨_, hpm⟩, Hd.starAt [_] (Hd.arrT [_, _, _] [1, 2, 0] (by decide) rfl (MR.map (Hd.arrT [_, _, _] [1, 0, 2] (by decide) rfl H)))⟩)
  ·
    refine l_rd rfl rfl (x_extract rfl rfl) ?_
    refine WL.nil ?_
    refine WC.seq ?_
    refine WC.cond0 rfl ?_
    refine WC.exit ?_
    refine atEnd ?_
    subst hnil
    exact RetM.none' rfl (.inl ⟨pre, show List.Perm _ _ by simpa using hp, Hd.starAt [_] (Hd.arrT [_, _, _] [1, 2, 0] (by decide) rfl (MR.map (Hd.arrT [_, _, _] [1, 0, 2] (by decide) rfl H)))⟩)
theorem c139 {s : Sy} [NoEx s] {L : List Hp} {m : Nat} (w : World) (H : Hd s w L) : CC Tryz.prog 139 [.map (some m)].toArray w (fun r w' => ∃ b1 : Nat, r = .func (.func 193) #[] #[.pointer (some ⟨b1, 0, none⟩)] ∧ Hd s w' (pt b1 (.cells #[.map (some m)] 77 (0, 0)) :: L)) := by
  refine CC.of (N := 4) Tryz.func139 rfl rfl rfl ?_
  refine WC.seq ?_
  refine WC.region ?_
  refine l_st rfl (s_box (by conv => lhs; whnf) H fun b1 w H => ?_)
  refine l_rd rfl rfl (x_assign ev_c) ?_
  refine WL.nil ?_
  refine WC.seq ?_
  refine WC.region ?_
  refine l_rd rfl rfl (x_makeFuncL) ?_
  refine l_rd rfl rfl (x_assign (by conv => lhs; whnf)) ?_
  refine WL.nil ?_
  refine WC.ret ?_
  refine atRet ?_
  exact RetM.one rfl (by (conv => lhs; whnf); try rfl) (⟨_, rfl, H⟩)
theorem c71 {s : Sy} [NoEx s] {L : List Hp} {mv : Nat} {vs : List (ByteArray × Int)} (w : World) (hn : (vs.map (·.1)).Nodup) (hvl : vs.length ≤ 100000) (H : Hd s w (Mp TS mv (vs.map (gval I)) :: L)) : CC Tryz.prog 71 [.agg #[.map (some mv)]].toArray w (fun r w' => ∃ l : List Pc, Shw l (loopT vs) ∧ Hd s w' (Sl r 43 3 l.length (l.flatMap pcC) :: Mp TS mv (vs.map (gval I)) :: L)) := by
  refine CC.of (N := 26) Tryz.func71 rfl rfl rfl ?_
  refine WC.seq ?_
  refine WC.region ?_
  refine l_st rfl (s_box (by conv => lhs; whnf) H fun b1 w H => ?_)
  refine l_rd rfl rfl (x_assign ev_c) ?_
  refine WL.nil ?_
  refine WC.seq ?_
  refine WC.seq ?_
  refine WC.region ?_
  refine l_rd rfl rfl (x_fieldAddr (k := 0) Tryz.underlying79 rfl rfl ty77 (by decide) rfl) ?_
  refine l_rd rfl rfl (x_load Tryz.underlying77 rfl rfl (H.cellL 0 rfl rfl)) ?_
  refine l_st rfl (s_callL cal139 (c139 _ H) ?_)
  rintro v7 w ⟨b7, rfl, H⟩
  refine l_st rfl (s_callL cal138 (c138 _ cal193 (it193 (row := vs)) (fun pre x h => by have := h.len; rw [List.length_map] at this; omega) (Hd.star (Hd.arrT [_, _, _] [0, 2, 1] (by decide) rfl H))) ?_)
  rintro v8 w ⟨xs, hfin, H⟩
  have H := Hd.unstarAt [_] H
  obtain ⟨a8, c8, rfl⟩ := (H.sl 0 rfl).shape
  have hxl : xs.length = vs.length := by rw [hfin.length_eq, List.length_map]
  have hks : (sortS xs).length = xs.length := sortS_len xs
  have H := Sl.reN hks.symm H
  refine l_rd rfl rfl (x_lenSlice Tryz.underlying103 rfl rfl) ?_
  refine l_rd rfl rfl (x_move ev_c) ?_
  refine WL.nil ?_
  refine WC.block ?_
  refine WC.loop (fun ρ ds w => ∃ (k : Nat) (ov : Value), k ≤ xs.length ∧ ρ 10 = I k ∧ ρ 9 = I xs.length ∧ ρ 8 = .slice a8 xs.length c8 ∧ ρ 1 = .pointer (some ⟨b1, 0, none⟩) ∧ ρ 2 = ov ∧ ds = [] ∧ Hd s w (Sl ov 43 3 k ((((sortS xs).take k).map (lpC vs)).flatMap pcC) :: Sl (.slice a8 xs.length c8) 9 1 (sortS xs).length ((sortS xs).map S) :: pt b1 (.cells #[.map (some mv)] 79 (0, 0)) :: Mp TS mv (vs.map (gval I)) :: L)) (fun ρ w => xs.length - (match ρ 10 with | .int _ k => k.toNat | _ => 0)) (⟨0, _, Nat.zero_le _, rfl, rfl, rfl, rfl, rfl, rfl, Hd.arrT [_, _, _, _, _] [0, 1, 3, 4] (by decide) rfl (Hd.nil (Hd.arrT [_, _, _, _] [0, 1, 3, 2] (by decide) rfl H) 43 3)⟩) ?_
  repeat clear H
  rintro ρ ds w ⟨k, ov, hk, h10, h9, h8, h1, h2, rfl, H⟩
  obtain ⟨ao, co, rfl⟩ := (H.sl 0 rfl).shape
  have h10o := h10
  refine WC.seq ?_
  refine WC.region ?_
  refine l_rdD rfl rfl (x_lss h10 h9) (fun h11 => ?_) (fun h11 => ?_)
  ·
    refine WL.nil ?_
    refine WC.seq ?_
    refine WC.cond1 rfl ?_
    refine WC.skip ?_
    refine WC.seq ?_
    refine WC.block ?_
    refine WC.seq ?_
    obtain ⟨x, hx⟩ := lt_get (show k < (sortS xs).length by omega)
    obtain ⟨b8, o8, rfl, hc8⟩ := (show RdL w (.slice a8 xs.length c8) S (sortS xs) from H.sl 1 rfl).el hx
    refine WC.region ?_
    refine l_rd rfl rfl (x_indexAddr Tryz.underlying103 ty9 h8 h10 (by omega) (by omega)) ?_
    refine l_rd rfl rfl (x_load Tryz.underlying9 rfl rfl hc8) ?_
    refine l_rd rfl rfl (x_assign (by conv => lhs; whnf)) ?_
    refine WL.nil ?_
    refine WC.region ?_
    refine l_rd rfl rfl (x_move h2) ?_
    refine l_rd rfl rfl (x_move (by conv => lhs; whnf)) ?_
    refine l_rd rfl rfl (x_move (by conv => lhs; whnf)) ?_
    refine l_rd rfl rfl (x_fieldAddr (k := 0) Tryz.underlying79 rfl rfl ty77 (by decide) h1) ?_
    refine l_rd rfl rfl (x_load Tryz.underlying77 rfl rfl (H.cellL 2 rfl rfl)) ?_
    refine l_rd rfl rfl (x_move (by conv => lhs; whnf)) ?_
    refine l_rd rfl rfl (x_lookM TS Tryz.underlying77 ty3 rfl rfl H 3 rfl (show _ = I ((glook x vs).getD 0) from lk_I)) ?_
    refine l_rd rfl rfl (x_buildL (pl := [(0, 1), (1, 1), (2, 1)]) (cells := pcC (lpC vs x)) Tryz.underlying43 ty43 (by kernel_rfl) rfl) ?_
    refine l_st rfl (s_build1A Tryz.underlying38 ty43 rfl (by decide) (by decide) (by conv => lhs; whnf) rfl H fun b22 w H => ?_)
    refine l_st rfl (s_append Tryz.underlying38 ty43 rfl (by decide) (by decide) rfl 1 rfl rfl rfl (H.sl 0 rfl) (by simp [Value.oneCell']) (by omega) H fun v23 w H => ?_)
    obtain ⟨a23, c23, rfl⟩ := (H.sl 1 rfl).shape
    refine l_rd rfl rfl (x_assign (by conv => lhs; whnf)) ?_
    refine WL.nil ?_
    refine WC.region ?_
    refine l_rd rfl rfl (x_add h10 rfl (by omega) (by omega)) ?_
    refine l_rd rfl rfl (x_move (by conv => lhs; whnf)) ?_
    refine WL.nil ?_
    refine WC.again (⟨k + 1, _, by omega, rfl, h9, h8, h1, rfl, rfl, by rw [List.take_add_one, hx, Option.toList_some, List.map_append, List.flatMap_append]; exact Hd.arrT [_, _, _, _, _] [1, 2, 3, 4] (by decide) rfl H⟩) (by show _ - _ < _ - _; rw [h10o]; show xs.length - ((k : Int) + 1).toNat < xs.length - (k : Int).toNat; omega)
  ·
    refine WL.nil ?_
    refine WC.seq ?_
    refine WC.cond0 rfl ?_
    refine WC.exit ?_
    refine WC.seq ?_
    refine WC.region ?_
    refine l_rd rfl rfl (x_move h2) ?_
    refine l_rd rfl rfl (x_assign (by conv => lhs; whnf)) ?_
    refine WL.nil ?_
    refine WC.ret ?_
    refine atRet ?_
    exact RetM.one rfl (by (conv => lhs; whnf); try rfl) (⟨(sortS xs).map (lpC vs), loop_shw hn hfin, by rw [List.take_of_length_le (show (sortS xs).length ≤ k by omega)] at H; exact Sl.reN (by rw [List.length_map]; omega) (Hd.arrT [_, _, _, _] [0, 3] (by decide) rfl H)⟩)
theorem cal87 : Cal Tryz.prog 87 := ⟨_, Tryz.func87, rfl, by decide⟩
/-! ### a vertex met -/
def mxT (o : Option Int) (t : Int) : Int := match o with
  | some o => max o t
  | none => t
structure MtI (vs : List (ByteArray × Int)) (t : Int) (pre : List ByteArray) (vk : List (ByteArray × Int)) (out : List Pc) : Prop where
  nd : (vk.map (·.1)).Nodup
  lk1 : ∀ q ∈ pre, glook q vk = some (mxT (glook q vs) t)
  lk0 : ∀ q, q ∉ pre → glook q vk = glook q vs
  iff : ∀ p : Pc, p ∈ out ↔ p.src = p.dst ∧ p.src ∈ pre ∧ p.time = t ∧ (∀ o, glook p.src vs = some o → o < t)
  ond : (out.map fun p => (p.src, p.dst)).Nodup
  len : out.length ≤ pre.length
  lenv : vk.length ≤ vs.length + pre.length
theorem MtI.start {vs : List (ByteArray × Int)} {t : Int} (h : (vs.map (·.1)).Nodup) : MtI vs t [] vs [] :=
  ⟨h, fun q hq => (by cases hq), fun q _ => rfl, fun p => ⟨fun h => (by cases h), fun h => (by cases h.2.1)⟩, List.nodup_nil, Nat.le_refl _, Nat.le_refl _⟩
theorem MtI.yes {vs vk : List (ByteArray × Int)} {t : Int} {pre : List ByteArray} {out : List Pc} {x : ByteArray} (h : MtI vs t pre vk out) (ho : ∀ o, glook x vk = some o → o < t) : MtI vs t (pre ++ [x]) (gset x t vk) (out ++ [⟨x, x, t⟩]) := by
  have hx : x ∉ pre := fun hx => by
    have h1 := h.lk1 x hx
    have h2 := ho _ h1
    unfold mxT at h2
    split at h2 <;> omega
  have hv : ∀ o, glook x vs = some o → o < t := fun o h1 => ho o (by rw [h.lk0 x hx]; exact h1)
  refine ⟨gset_nodup h.nd, fun q hq => ?_, fun q hq => ?_, fun p => ?_, ?_, by simp; exact h.len, ?_⟩
  · rw [glook_gset]
    split
    · rename_i e
      subst e
      congr 1
      unfold mxT
      split
      · rename_i o h1; have := hv o h1; omega
      · rfl
    · rename_i e
      rcases List.mem_append.1 hq with h1 | h1
      · exact h.lk1 q h1
      · exact absurd (List.mem_singleton.1 h1) e
  · rw [glook_gset, if_neg (fun e => hq (by rw [e]; simp))]
    exact h.lk0 q fun h1 => hq (List.mem_append_left _ h1)
  · rw [List.mem_append, h.iff, List.mem_singleton, List.mem_append, List.mem_singleton]
    constructor
    · rintro (⟨h1, h2, h3⟩ | rfl)
      · exact ⟨h1, .inl h2, h3⟩
      · exact ⟨rfl, .inr rfl, rfl, hv⟩
    · rintro ⟨h1, h2 | h2, h3, h4⟩
      · exact .inl ⟨h1, h2, h3, h4⟩
      · right
        obtain ⟨p1, p2, p3⟩ := p
        simp only at h1 h2 h3
        subst h1 h2 h3; rfl
  · rw [List.map_append, List.nodup_append]
    refine ⟨h.ond, by simp, fun a ha b hb e => ?_⟩
    subst e
    have hb := List.mem_singleton.1 hb
    obtain ⟨p, hp, rfl⟩ := List.mem_map.1 ha
    have h1 := ((h.iff p).1 hp).2.1
    rw [(Prod.mk.inj hb).1] at h1
    exact hx h1
  · have := h.lenv
    rw [gset_old_len, List.length_append]; split <;> simp <;> omega
theorem MtI.no {vs vk : List (ByteArray × Int)} {t o : Int} {pre : List ByteArray} {out : List Pc} {x : ByteArray} (h : MtI vs t pre vk out) (ho : glook x vk = some o) (hle : t ≤ o) : MtI vs t (pre ++ [x]) vk out := by
  refine ⟨h.nd, fun q hq => ?_, fun q hq => h.lk0 q fun h1 => hq (List.mem_append_left _ h1), fun p => ?_, h.ond, by rw [List.length_append]; have := h.len; omega, by rw [List.length_append]; have := h.lenv; omega⟩
  · by_cases h1 : q ∈ pre
    · exact h.lk1 q h1
    · rcases List.mem_append.1 hq with h2 | h2
      · exact absurd h2 h1
      · have := List.mem_singleton.1 h2
        subst this
        rw [ho, ← h.lk0 q h1, ho]
        unfold mxT; simp only []; congr 1; omega
  · rw [h.iff, List.mem_append, List.mem_singleton]
    constructor
    · rintro ⟨h1, h2, h3⟩; exact ⟨h1, .inl h2, h3⟩
    · rintro ⟨h1, h2, h3, h4⟩
      refine ⟨h1, ?_, h3, h4⟩
      rcases h2 with h2 | h2
      · exact h2
      · refine Classical.byContradiction fun h5 => ?_
        have := h4 o (by rw [← h.lk0 _ h5, h2]; exact ho)
        omega
theorem MtI.shw {vs vk : List (ByteArray × Int)} {t : Int} {pre : List ByteArray} {out l : List Pc} (h : MtI vs t pre vk out) (hp : l.Perm out) (hs : srtP l) : Shw l (chg (loopT vs) (loopT vk)) := by
  refine ⟨srt_strict hs ((hp.map _).nodup_iff.2 h.ond), fun p => ?_⟩
  rw [hp.mem_iff, h.iff, chg_some]
  unfold loopT
  simp only []
  by_cases e : p.src = p.dst
  · rw [if_pos e, if_pos e]
    by_cases hx : p.src ∈ pre
    · rw [h.lk1 _ hx]
      constructor
      · rintro ⟨-, -, h3, h4⟩
        refine ⟨?_, fun h5 => ?_⟩
        · congr 1; unfold mxT; split
          · rename_i o h6; have := h4 o h6; omega
          · exact h3.symm
        · have := h4 _ h5; omega
      · rintro ⟨h1, h2⟩
        have h1 := Option.some.inj h1
        unfold mxT at h1
        refine ⟨e, hx, ?_, ?_⟩
        · split at h1
          · rename_i o h6
            rw [h6] at h2
            have : o ≠ p.time := fun h => h2 (by rw [h])
            omega
          · exact h1.symm
        · intro o h6
          rw [h6] at h1 h2
          have : o ≠ p.time := fun h => h2 (by rw [h])
          simp only [] at h1
          omega
    · rw [h.lk0 _ hx]
      exact ⟨fun h1 => absurd h1.2.1 hx, fun h1 => absurd h1.1 h1.2⟩
  · rw [if_neg e]
    exact ⟨fun h1 => absurd h1.1 e, fun h1 => by cases h1.1⟩
/-! ### two lists told as one -/
abbrev ePc : Pc → List Value → Hp := fun x vs => fun _ => vs = [.agg (pcC x).toArray]
def okZ {α : Type} (l pre : List α) (x : α) : Prop := ∃ rest, l = pre ++ x :: rest
def finZ {α : Type} (l xs : List α) : Prop := xs = l
theorem okZ.len {α : Type} {l pre : List α} {x : α} (h : okZ l pre x) : pre.length < l.length := by
  obtain ⟨r, rfl⟩ := h; simp
def mrg (em : Bool) : List Pc → List Pc → List Pc
  | [], lo => lo
  | p :: ts, lo => if em = true ∧ p.src = p.dst then mrg em ts lo else lo.takeWhile (fun q => decide (cmpP q p < 0)) ++ p :: mrg em ts (lo.dropWhile fun q => decide (cmpP q p < 0))
def ins (em : Bool) (p : Pc) (ts lo : List Pc) : List Pc := lo.takeWhile (fun q => decide (cmpP q p < 0)) ++ p :: mrg em ts (lo.dropWhile fun q => decide (cmpP q p < 0))
theorem mrg_skip {em : Bool} {p : Pc} {ts lo : List Pc} (h : em = true ∧ p.src = p.dst) : mrg em (p :: ts) lo = mrg em ts lo := by rw [mrg, if_pos h]
theorem mrg_ins {em : Bool} {p : Pc} {ts lo : List Pc} (h : ¬ (em = true ∧ p.src = p.dst)) : mrg em (p :: ts) lo = ins em p ts lo := by rw [mrg, if_neg h]; rfl
theorem ins_lt {em : Bool} {p q : Pc} {ts lo : List Pc} (h : cmpP q p < 0) : ins em p ts (q :: lo) = q :: ins em p ts lo := by
  unfold ins
  rw [List.takeWhile_cons, List.dropWhile_cons]
  simp [h]
theorem ins_ge {em : Bool} {p : Pc} {ts lo : List Pc} (h : ∀ q lo', lo = q :: lo' → ¬ cmpP q p < 0) : ins em p ts lo = p :: mrg em ts lo := by
  unfold ins
  cases lo with
  | nil => rfl
  | cons q lo' =>
    have := h q lo' rfl
    rw [List.takeWhile_cons, List.dropWhile_cons]
    simp [this]
theorem c86 {p q : Pc} (w : World) : CC Tryz.prog 86 [.agg (pcC p).toArray, .agg (pcC q).toArray].toArray w (fun r w' => r = I (cmpP p q) ∧ Ext w w') := (d86 w).mono fun v w' h => ⟨h.1, h.2.e⟩
theorem c38 {s : Sy} [NoEx s] {L : List Hp} {mv : Nat} {vs : List (ByteArray × Int)} {t : Int} {nm : List ByteArray} {nv : Value} (w : World) (hn : (vs.map (·.1)).Nodup) (hnl : nm.length ≤ 1000) (H : Hd s w (Mp TS mv (vs.map (gval I)) :: Sl nv 9 1 nm.length (nm.map S) :: L)) : CC Tryz.prog 38 [.agg #[.map (some mv)], I t, nv].toArray w (fun r w' => ∃ (vk : List (ByteArray × Int)) (out l : List Pc), MtI vs t nm vk out ∧ Shw l (chg (loopT vs) (loopT vk)) ∧ Hd s w' (Sl r 43 3 l.length (l.flatMap pcC) :: Mp TS mv (vk.map (gval I)) :: L)) := by
  obtain ⟨an, cn, rfl⟩ := (H.sl 1 rfl).shape
  refine CC.of (N := 46) Tryz.func38 rfl rfl rfl ?_
  refine WC.seq ?_
  refine WC.region ?_
  refine l_st rfl (s_box (by conv => lhs; whnf) H fun b3 w H => ?_)
  refine l_rd rfl rfl (x_assign ev_c) ?_
  refine WL.nil ?_
  refine WC.seq ?_
  refine WC.seq ?_
  refine WC.region ?_
  refine l_rd rfl rfl (x_move (by conv => lhs; whnf)) ?_
  refine l_rd rfl rfl (x_lenSlice Tryz.underlying103 rfl rfl) ?_
  refine l_rd rfl rfl (x_move ev_c) ?_
  refine WL.nil ?_
  refine WC.block ?_
  refine WC.loop (fun ρ ds w => ∃ (k : Nat) (ov : Value) (vk : List (ByteArray × Int)) (out : List Pc), k ≤ nm.length ∧ MtI vs t (nm.take k) vk out ∧ ρ 13 = I k ∧ ρ 12 = I nm.length ∧ ρ 11 = .slice an nm.length cn ∧ ρ 3 = .pointer (some ⟨b3, 0, none⟩) ∧ ρ 1 = I t ∧ ρ 6 = ov ∧ ds = [] ∧ Hd s w (Sl ov 43 3 out.length (out.flatMap pcC) :: Mp TS mv (vk.map (gval I)) :: Sl (.slice an nm.length cn) 9 1 nm.length (nm.map S) :: pt b3 (.cells #[.map (some mv)] 79 (0, 0)) :: L)) (fun ρ w => nm.length - (match ρ 13 with | .int _ k => k.toNat | _ => 0)) (⟨0, _, vs, [], Nat.zero_le _, MtI.start hn, rfl, rfl, rfl, rfl, rfl, rfl, rfl, Hd.arrT [_, _, _, _] [0, 2, 3, 1] (by decide) rfl (Hd.nil H 43 3)⟩) ?_
  repeat clear H
  rintro ρ ds w ⟨k, ov, vk, out, hk, hM, h13, h12, h11, h3, h1, h6, rfl, H⟩
  obtain ⟨ao, co, rfl⟩ := (H.sl 0 rfl).shape
  have h13o := h13
  have hML := hM.len
  have htl : (nm.take k).length ≤ nm.length := by rw [List.length_take]; omega
  refine WC.seq ?_
  refine WC.region ?_
  refine l_rdD rfl rfl (x_lss h13 h12) (fun h14 => ?_) (fun h14 => ?_)
  ·
    refine WL.nil ?_
    refine WC.seq ?_
    refine WC.cond1 rfl ?_
    refine WC.skip ?_
    refine WC.seq ?_
    refine WC.block ?_
    refine WC.seq ?_
    obtain ⟨x, hx⟩ := lt_get (show k < nm.length by omega)
    obtain ⟨b8, o8, rfl, hc8⟩ := (show RdL w (.slice an nm.length cn) S nm from H.sl 2 rfl).el hx
    refine WC.region ?_
    refine l_rd rfl rfl (x_indexAddr Tryz.underlying103 ty9 h11 h13 (by omega) (by omega)) ?_
    refine l_rd rfl rfl (x_load Tryz.underlying9 rfl rfl hc8) ?_
    refine l_rd rfl rfl (x_assign (by conv => lhs; whnf)) ?_
    refine WL.nil ?_
    refine WC.seq ?_
    cases ho : glook x vk
    ·
      refine WC.region ?_
      refine l_rd rfl rfl (x_fieldAddr (k := 0) Tryz.underlying79 rfl rfl ty77 (by decide) h3) ?_
      refine l_rd rfl rfl (x_load Tryz.underlying77 rfl rfl (H.cellL 3 rfl rfl)) ?_
      refine l_rd rfl rfl (x_move (by conv => lhs; whnf)) ?_
      refine l_rd rfl rfl (x_lookM TS Tryz.underlying77 ty3 rfl rfl H 1 rfl (show _ = Value.tuple #[I 0, .bool false] by rw [alook_g, ho]; rfl)) ?_
      refine l_rd rfl rfl (x_move (by conv => lhs; whnf)) ?_
      refine l_rd rfl rfl (x_extract rfl rfl) ?_
      refine l_rd rfl rfl (x_extract rfl rfl) ?_
      refine l_rd rfl rfl (x_assign (by conv => lhs; whnf)) ?_
      refine l_rd rfl rfl (x_assign (by conv => lhs; whnf)) ?_
      refine WL.nil ?_
      refine WC.seq ?_
      refine WC.region ?_
      refine l_rd rfl rfl (x_move (by conv => lhs; whnf)) ?_
      refine l_rd rfl rfl (x_not rfl) ?_
      refine l_rd rfl rfl (x_move (by conv => lhs; whnf)) ?_
      refine l_gn (wantN rfl rfl rfl) rfl ?_
      refine l_gn (wantN rfl rfl rfl) rfl ?_
      refine l_gn (wantN rfl rfl rfl) rfl ?_
      refine l_rd rfl rfl (x_pick1 rfl ev_c) ?_
      refine WL.nil ?_
      refine WC.cond1 rfl ?_
      refine WC.seq ?_
      refine WC.region ?_
      refine l_rd rfl rfl (x_fieldAddr (k := 0) Tryz.underlying79 rfl rfl ty77 (by decide) h3) ?_
      refine l_rd rfl rfl (x_load Tryz.underlying77 rfl rfl (H.cellL 3 rfl rfl)) ?_
      refine l_rd rfl rfl (x_move (by conv => lhs; whnf)) ?_
      refine l_rd rfl rfl (x_move h1) ?_
      refine l_no (s_mapUpdate TS Tryz.underlying77 1 rfl rfl rfl (by conv => lhs; whnf) H (fun w H => ?_))
      rw [aset_g I] at H
      refine WL.nil ?_
      refine WC.region ?_
      refine l_rd rfl rfl (x_move h6) ?_
      refine l_rd rfl rfl (x_move (by conv => lhs; whnf)) ?_
      refine l_rd rfl rfl (x_move (by conv => lhs; whnf)) ?_
      refine l_rd rfl rfl (x_move h1) ?_
      refine l_rd rfl rfl (x_buildL (pl := [(0, 1), (1, 1), (2, 1)]) (cells := pcC ⟨x, x, t⟩) Tryz.underlying43 ty43 (by kernel_rfl) rfl) ?_
      refine l_st rfl (s_build1A Tryz.underlying38 ty43 rfl (by decide) (by decide) (by conv => lhs; whnf) rfl H fun b40 w H => ?_)
      refine l_st rfl (s_append Tryz.underlying38 ty43 rfl (by decide) (by decide) rfl 1 rfl rfl rfl (H.sl 0 rfl) (by simp [Value.oneCell']) (by omega) H fun v41 w H => ?_)
      obtain ⟨a41, c41, rfl⟩ := (H.sl 1 rfl).shape
      refine l_rd rfl rfl (x_assign (by conv => lhs; whnf)) ?_
      refine WL.nil ?_
      refine WC.region ?_
      refine l_rd rfl rfl (x_add h13 rfl (by omega) (by omega)) ?_
      refine l_rd rfl rfl (x_move (by conv => lhs; whnf)) ?_
      refine WL.nil ?_
      refine WC.again (⟨k + 1, _, _, _, by omega, by rw [List.take_add_one, hx]; exact hM.yes (fun o h9 => by rw [ho] at h9; cases h9), rfl, h12, h11, h3, h1, rfl, rfl, by rw [List.length_append, List.flatMap_append]; exact Hd.arrT [_, _, _, _, _] [1, 2, 3, 4] (by decide) rfl H⟩) (by show _ - _ < _ - _; rw [h13o]; show nm.length - ((k : Int) + 1).toNat < nm.length - (k : Int).toNat; omega)
    ·
      rename_i old
      refine WC.region ?_
      refine l_rd rfl rfl (x_fieldAddr (k := 0) Tryz.underlying79 rfl rfl ty77 (by decide) h3) ?_
      refine l_rd rfl rfl (x_load Tryz.underlying77 rfl rfl (H.cellL 3 rfl rfl)) ?_
      refine l_rd rfl rfl (x_move (by conv => lhs; whnf)) ?_
      refine l_rd rfl rfl (x_lookM TS Tryz.underlying77 ty3 rfl rfl H 1 rfl (show _ = Value.tuple #[I old, .bool true] by rw [alook_g, ho]; rfl)) ?_
      refine l_rd rfl rfl (x_move (by conv => lhs; whnf)) ?_
      refine l_rd rfl rfl (x_extract rfl rfl) ?_
      refine l_rd rfl rfl (x_extract rfl rfl) ?_
      refine l_rd rfl rfl (x_assign (by conv => lhs; whnf)) ?_
      refine l_rd rfl rfl (x_assign (by conv => lhs; whnf)) ?_
      refine WL.nil ?_
      refine WC.seq ?_
      refine WC.region ?_
      refine l_rd rfl rfl (x_move (by conv => lhs; whnf)) ?_
      refine l_rd rfl rfl (x_not rfl) ?_
      refine l_rd rfl rfl (x_move (by conv => lhs; whnf)) ?_
      refine l_gy (wantY rfl rfl rfl) rfl rfl (x_move (by conv => lhs; whnf)) ?_
      refine l_gy (wantY rfl rfl rfl) rfl rfl (x_move h1) ?_
      refine l_gyD (wantY rfl rfl rfl) rfl rfl (x_lss rfl rfl) (fun h29 => ?_) (fun h29 => ?_)
      ·
        refine l_rd rfl rfl (x_pick0 rfl (by conv => lhs; whnf)) ?_
        refine WL.nil ?_
        refine WC.cond1 rfl ?_
        refine WC.seq ?_
        refine WC.region ?_
        refine l_rd rfl rfl (x_fieldAddr (k := 0) Tryz.underlying79 rfl rfl ty77 (by decide) h3) ?_
        refine l_rd rfl rfl (x_load Tryz.underlying77 rfl rfl (H.cellL 3 rfl rfl)) ?_
        refine l_rd rfl rfl (x_move (by conv => lhs; whnf)) ?_
        refine l_rd rfl rfl (x_move h1) ?_
        refine l_no (s_mapUpdate TS Tryz.underlying77 1 rfl rfl rfl (by conv => lhs; whnf) H (fun w H => ?_))
        rw [aset_g I] at H
        refine WL.nil ?_
        refine WC.region ?_
        refine l_rd rfl rfl (x_move h6) ?_
        refine l_rd rfl rfl (x_move (by conv => lhs; whnf)) ?_
        refine l_rd rfl rfl (x_move (by conv => lhs; whnf)) ?_
        refine l_rd rfl rfl (x_move h1) ?_
        refine l_rd rfl rfl (x_buildL (pl := [(0, 1), (1, 1), (2, 1)]) (cells := pcC ⟨x, x, t⟩) Tryz.underlying43 ty43 (by kernel_rfl) rfl) ?_
        refine l_st rfl (s_build1A Tryz.underlying38 ty43 rfl (by decide) (by decide) (by conv => lhs; whnf) rfl H fun b40 w H => ?_)
        refine l_st rfl (s_append Tryz.underlying38 ty43 rfl (by decide) (by decide) rfl 1 rfl rfl rfl (H.sl 0 rfl) (by simp [Value.oneCell']) (by omega) H fun v41 w H => ?_)
        obtain ⟨a41, c41, rfl⟩ := (H.sl 1 rfl).shape
        refine l_rd rfl rfl (x_assign (by conv => lhs; whnf)) ?_
        refine WL.nil ?_
        refine WC.region ?_
        refine l_rd rfl rfl (x_add h13 rfl (by omega) (by omega)) ?_
        refine l_rd rfl rfl (x_move (by conv => lhs; whnf)) ?_
        refine WL.nil ?_
        refine WC.again (⟨k + 1, _, _, _, by omega, by rw [List.take_add_one, hx]; exact hM.yes (fun o h9 => by rw [ho] at h9; cases h9; exact h29), rfl, h12, h11, h3, h1, rfl, rfl, by rw [List.length_append, List.flatMap_append]; exact Hd.arrT [_, _, _, _, _] [1, 2, 3, 4] (by decide) rfl H⟩) (by show _ - _ < _ - _; rw [h13o]; show nm.length - ((k : Int) + 1).toNat < nm.length - (k : Int).toNat; omega)
      ·
        refine l_rd rfl rfl (x_pick0 rfl (by conv => lhs; whnf)) ?_
        refine WL.nil ?_
        refine WC.cond0 rfl ?_
        refine WC.skip ?_
        refine WC.region ?_
        refine l_rd rfl rfl (x_add h13 rfl (by omega) (by omega)) ?_
        refine l_rd rfl rfl (x_move (by conv => lhs; whnf)) ?_
        refine WL.nil ?_
        refine WC.again (⟨k + 1, _, _, _, by omega, by rw [List.take_add_one, hx]; exact hM.no ho (by omega), rfl, h12, h11, h3, h1, h6, rfl, Hd.arrT [_, _, _, _] [0, 1, 2, 3] (by decide) rfl H⟩) (by show _ - _ < _ - _; rw [h13o]; show nm.length - ((k : Int) + 1).toNat < nm.length - (k : Int).toNat; omega)
  ·
    refine WL.nil ?_
    refine WC.seq ?_
    refine WC.cond0 rfl ?_
    refine WC.exit ?_
    refine WC.seq ?_
    refine WC.region ?_
    refine l_rd rfl rfl (x_move h6) ?_
    refine l_st rfl (s_callL cal85 (c85 _ (.inr rfl) (Hd.arrT [_, _, _, _] [0, 1, 2, 3] (by decide) rfl H)) ?_)
    rintro _ w ⟨l2, rfl, hp2, hs2, H⟩
    refine WL.nil ?_
    refine WC.seq ?_
    refine WC.region ?_
    refine l_rd rfl rfl (x_move h6) ?_
    refine l_rd rfl rfl (x_assign (by conv => lhs; whnf)) ?_
    refine WL.nil ?_
    refine WC.ret ?_
    refine atRet ?_
    exact RetM.one rfl (by (conv => lhs; whnf); try rfl) (⟨vk, out, l2, by rw [List.take_of_length_le (show nm.length ≤ k by omega)] at hM; exact hM, hM.shw hp2 hs2, Sl.reN hp2.length_eq.symm (Hd.arrT [_, _, _, _] [0, 1] (by decide) rfl H)⟩)
theorem c87 {s : Sy} [NoEx s] {L : List Hp} {f : FuncId} {caps : List Value} {A : Hp} {B : List Pc → Hp} {ok : List Pc → Pc → Prop} {fin : List Pc → Prop} (w : World) (hc : Cal Tryz.prog f) (hit : ITa Tryz.prog s f caps ePc ok fin A B) (hlen : ∀ pre x, ok pre x → pre.length < 1000000000) (H : Hd s w (A :: L)) : CC Tryz.prog 87 [.slice none 0 0, .func (.func f) #[] caps.toArray].toArray w (fun r w' => ∃ xs, fin xs ∧ Hd s w' (Sl r 43 3 xs.length (xs.flatMap pcC) :: B xs :: L)) := by
  refine CC.of (N := 13) Tryz.func87 rfl rfl rfl ?_
  refine WC.seq ?_
  refine WC.region ?_
  refine l_st rfl (s_box (by conv => lhs; whnf) H fun b2 w H => ?_)
  refine l_rd rfl rfl (x_assign ev_c) ?_
  refine WL.nil ?_
  refine WC.seq ?_
  refine WC.seq ?_
  refine WC.region ?_
  refine l_rd rfl rfl (x_move (by conv => lhs; whnf)) ?_
  refine WL.nil ?_
  refine WC.block ?_
  have H := PX.mk (α := Value) (φ := fun _ => True) (A := fun v => [pt b2 (.cells #[v] 38 (0, 0)), Sl v 43 3 ([] : List Pc).length (([] : List Pc).flatMap pcC)]) (.slice none 0 0) trivial (Hd.arrT [_, _, _] [1, 0, 2] (by decide) rfl (Hd.nil H 43 3))
  refine WC.rangeFnA (P := Tryz.prog) (caps := caps) (E := ePc) (ok := ok) (fin := fin) (A := A) (B := B) (I := fun pre => PX (α := Value) (fun _ => True) (fun v => [pt b2 (.cells #[v] 38 (0, 0)), Sl v 43 3 pre.length (pre.flatMap pcC)])) (X := fun _ _ => fun _ => False) (L := L) rfl hc (by decide) (fun x vs h hv => by have : vs = _ := hv; rw [this]; rfl) hit H ?_ ?_ ?_
  ·
    intro l pre x vs w L' L2 hok hrec H
    obtain ⟨hh, _, hvs⟩ := H.fact_at 1 rfl
    have hvs : vs = [.agg (pcC x).toArray] := hvs
    subst hvs
    refine WC.region ?_
    refine l_st rfl (s_alloc ty43 H fun b5 w H => ?_)
    refine l_no (s_stA 0 rfl ty43 rfl (by conv => lhs; whnf) rfl rfl rfl H fun w H => ?_)
    refine WL.nil ?_
    refine ⟨⟨[_, _, _], H⟩, fun w2 hw2 => ?_⟩
    clear hrec
    have H := Hd.arrT [_, _, _] [1, 0] (by decide) rfl (hw2 [_, _, _] H)
    clear hw2
    obtain ⟨v0, -, H⟩ := PX.opn H
    obtain ⟨a0, c0, rfl⟩ := (H.sl 1 rfl).shape
    have hll := hlen pre x hok
    refine WC.block ?_
    refine WC.region ?_
    refine l_rd rfl rfl (x_load Tryz.underlying38 rfl rfl (H.cellL 0 rfl rfl)) ?_
    refine l_rd rfl rfl (x_loadF (vs := [_, _, _]) Tryz.underlying43 rfl ty43 rfl rfl (H.cellsL 2 rfl rfl)) ?_
    refine l_st rfl (s_build1A Tryz.underlying38 ty43 rfl (by decide) (by decide) (by conv => lhs; whnf) rfl H fun b10 w H => ?_)
    refine l_st rfl (s_append Tryz.underlying38 ty43 rfl (by decide) (by decide) rfl 2 rfl rfl rfl (H.sl 0 rfl) (by simp [Value.oneCell']) (by omega) H fun v11 w H => ?_)
    obtain ⟨a11, c11, rfl⟩ := (H.sl 2 rfl).shape
    refine l_no (s_st 1 rfl ty38 rfl (by conv => lhs; whnf) rfl rfl H fun w H => ?_)
    refine WL.nil ?_
    exact PX.mk _ trivial (by rw [len_snoc, List.flatMap_append]; exact Hd.arrT [_, _, _, _] [1, 2] (by decide) rfl H)
  ·
    intro w m xs hfin H
    obtain ⟨v0, -, H⟩ := PX.opn H
    obtain ⟨a0, c0, rfl⟩ := (H.sl 1 rfl).shape
    refine WC.seq ?_
    refine WC.region ?_
    refine l_rd rfl rfl (x_load Tryz.underlying38 rfl rfl (H.cellL 0 rfl rfl)) ?_
    refine l_rd rfl rfl (x_assign (by conv => lhs; whnf)) ?_
    refine WL.nil ?_
    refine WC.ret ?_
    refine atRet ?_
    refine RetM.mark H (i := 3) rfl (fun w H => ?_)
    exact RetM.one rfl (by (conv => lhs; whnf); try rfl) (⟨xs, hfin, Hd.arrT [_, _, _, _] [1, 2] (by decide) rfl H⟩)
  ·
    intro w m c pre x hok H
    obtain ⟨hh, _, hF⟩ := H.fact_at 0 rfl
    exact hF.elim
theorem c39 {s : Sy} [NoEx s] {L : List Hp} {f : FuncId} {caps : List Value} {A : Hp} {B : List Pc → Hp} {ok : List Pc → Pc → Prop} {fin : List Pc → Prop} (w : World) (hc : Cal Tryz.prog f) (hit : ITa Tryz.prog s f caps ePc ok fin A B) (hlen : ∀ pre x, ok pre x → pre.length < 1000000000) (H : Hd s w (A :: L)) : CC Tryz.prog 39 [.func (.func f) #[] caps.toArray].toArray w (fun r w' => ∃ xs, fin xs ∧ Hd s w' (Sl r 43 3 xs.length (xs.flatMap pcC) :: B xs :: L)) := by
  refine CC.of (N := 5) Tryz.func39 rfl rfl rfl ?_
  refine WC.seq ?_
  refine WC.region ?_
  refine l_rd rfl rfl (x_assign ev_c) ?_
  refine WL.nil ?_
  refine WC.seq ?_
  refine WC.region ?_
  refine l_rd rfl rfl (x_move (by conv => lhs; whnf)) ?_
  refine l_st rfl (s_callL cal87 (c87 _ hc hit hlen H) ?_)
  rintro v4 w ⟨xs, hfin, H⟩
  refine l_rd rfl rfl (x_assign (by conv => lhs; whnf)) ?_
  refine WL.nil ?_
  refine WC.ret ?_
  refine atRet ?_
  exact RetM.one rfl (by (conv => lhs; whnf); try rfl) (⟨xs, hfin, H⟩)
theorem cal37 : Cal Tryz.prog 37 := ⟨_, Tryz.func37, rfl, by decide⟩
theorem cal86 : Cal Tryz.prog 86 := ⟨_, Tryz.func86, rfl, by decide⟩
theorem it88 {s : Sy} [NoEx s] {g : KE.Sub} {b3 b4 b5 ro mv a f : Nat} {A : Gr} {em : Bool} {tv lv : Value} {tr lo : List Pc} (hE : okA A) (hA : AuG g a A) (hem : em = takesA A 0) : ITa Tryz.prog s 88 [.pointer (some ⟨b4, 0, none⟩), .pointer (some ⟨b3, 0, none⟩), .pointer (some ⟨b5, 0, none⟩)] ePc (okZ (mrg em tr lo)) (finZ (mrg em tr lo)) (KE.sep [pt b4 (.cells #[tv] 38 (0, 0)), Sl tv 43 3 tr.length (tr.flatMap pcC), pt b3 (.cells #[.pointer (some ⟨ro, 0, none⟩)] 29 (0, 0)), pt b5 (.cells #[lv] 38 (0, 0)), Sl lv 43 3 lo.length (lo.flatMap pcC), pt ro (.cells #[.map (some mv), .pointer (some ⟨a, 0, none⟩), .pointer (some ⟨f, 0, none⟩)] 81 (0, 0)), fz g]) (fun _ => KE.sep [pt ro (.cells #[.map (some mv), .pointer (some ⟨a, 0, none⟩), .pointer (some ⟨f, 0, none⟩)] 81 (0, 0)), fz g]) := by
  intro l J X w L hy H
  have H := Hd.unsep (A := [pt b4 (.cells #[tv] 38 (0, 0)), Sl tv 43 3 tr.length (tr.flatMap pcC), pt b3 (.cells #[.pointer (some ⟨ro, 0, none⟩)] 29 (0, 0)), pt b5 (.cells #[lv] 38 (0, 0)), Sl lv 43 3 lo.length (lo.flatMap pcC), pt ro (.cells #[.map (some mv), .pointer (some ⟨a, 0, none⟩), .pointer (some ⟨f, 0, none⟩)] 81 (0, 0)), fz g]) (Hd.swp H)
  obtain ⟨at_, ct, rfl⟩ := (H.sl 1 rfl).shape
  refine CC.of (N := 61) Tryz.func88 rfl rfl rfl ?_
  refine WC.scope ?_
  refine WC.seq ?_
  refine WC.label ?_
  refine WC.seq ?_
  refine WC.seq ?_
  refine WC.region ?_
  refine l_rd rfl rfl (x_load Tryz.underlying38 rfl rfl (H.cellL 0 rfl rfl)) ?_
  refine l_rd rfl rfl (x_lenSlice Tryz.underlying38 rfl rfl) ?_
  refine l_rd rfl rfl (x_move ev_c) ?_
  refine WL.nil ?_
  refine WC.block ?_
  refine WC.loop (fun ρ ds w => ∃ (k : Nat) (pre lk : List Pc) (lw : Value), k ≤ tr.length ∧ lk.length ≤ lo.length ∧ pre ++ mrg em (tr.drop k) lk = mrg em tr lo ∧ ρ 12 = I k ∧ ρ 11 = I tr.length ∧ ρ 10 = .slice at_ tr.length ct ∧ ρ 0 = .func (.yield l) #[] #[] ∧ ρ 2 = .pointer (some ⟨b3, 0, none⟩) ∧ ρ 3 = .pointer (some ⟨b5, 0, none⟩) ∧ ds = [] ∧ Hd s w (J pre :: pt b4 (.cells #[(.slice at_ tr.length ct)] 38 (0, 0)) :: Sl (.slice at_ tr.length ct) 43 3 tr.length (tr.flatMap pcC) :: pt b3 (.cells #[.pointer (some ⟨ro, 0, none⟩)] 29 (0, 0)) :: pt b5 (.cells #[lw] 38 (0, 0)) :: Sl lw 43 3 lk.length (lk.flatMap pcC) :: pt ro (.cells #[.map (some mv), .pointer (some ⟨a, 0, none⟩), .pointer (some ⟨f, 0, none⟩)] 81 (0, 0)) :: fz g :: L)) (fun ρ w => tr.length - (match ρ 12 with | .int _ k => k.toNat | _ => 0)) (⟨0, [], lo, _, Nat.zero_le _, Nat.le_refl _, rfl, rfl, rfl, rfl, rfl, rfl, rfl, rfl, Hd.arrT [_, _, _, _, _, _, _, _] [7, 0, 1, 2, 3, 4, 5, 6] (by decide) rfl H⟩) ?_
  repeat clear H
  rintro ρ ds w ⟨k, pre, lk, lw, hk, hll, hM, h12, h11, h10, h0, h2, h3, rfl, H⟩
  have h12o := h12
  have htl := (H.sl 2 rfl).1.2
  refine WC.seq ?_
  refine WC.region ?_
  refine l_rdD rfl rfl (x_lss h12 h11) (fun h13 => ?_) (fun h13 => ?_)
  ·
    refine WL.nil ?_
    refine WC.seq ?_
    refine WC.cond1 rfl ?_
    refine WC.skip ?_
    refine WC.seq ?_
    refine WC.block ?_
    refine WC.seq ?_
    obtain ⟨p, hp⟩ := lt_get (show k < tr.length by omega)
    have hdr : tr.drop k = p :: tr.drop (k + 1) := drop_at hp
    have hrt := (show RdS w (.slice at_ tr.length ct) 3 pcC tr from H.sl 2 rfl)
    obtain ⟨bt, ot, hat, -⟩ := hrt.el pcC_len hp
    rw [hat] at hrt
    have h10b := h10
    rw [hat] at h10b
    refine WC.region ?_
    refine l_rd rfl rfl (x_indexAddr Tryz.underlying38 ty43 h10b h12 (by omega) (by omega)) ?_
    refine l_rd rfl rfl (x_loadF (vs := [_, _, _]) Tryz.underlying43 rfl ty43 rfl rfl (sub_row 0 (RdS.at pcC_len hrt hp) rfl)) ?_
    refine l_st rfl (s_alloc ty43 H fun b6 w H => ?_)
    refine l_no (s_stA 0 rfl ty43 rfl (by conv => lhs; whnf) rfl rfl rfl H fun w H => ?_)
    refine WL.nil ?_
    refine WC.seq ?_
    refine WC.seq ?_
    obtain ⟨e9, he9⟩ : ∃ e9, e9 = em := ⟨_, rfl⟩
    cases e9
    ·
      refine WC.region ?_
      refine l_rd rfl rfl (x_load Tryz.underlying29 rfl h2 (H.cellL 4 rfl rfl)) ?_
      refine l_st rfl (s_callL cal37 (c37 _ (H.obj 7 rfl) (hA.rd (H.fz 8 rfl)) hE.1) ?_)
      rintro r w ⟨hr1, e1⟩
      have H := H.ext e1
      obtain rfl : r = .bool false := hr1.trans (by rw [← hem, ← he9])
      refine l_rd rfl rfl (x_move (by conv => lhs; whnf)) ?_
      refine l_gn (wantN rfl rfl rfl) rfl ?_
      refine l_gn (wantN rfl rfl rfl) rfl ?_
      refine l_gn (wantN rfl rfl rfl) rfl ?_
      refine l_gn (wantN rfl rfl rfl) rfl ?_
      refine l_gn (wantN rfl rfl rfl) rfl ?_
      refine l_rd rfl rfl (x_pick0 rfl ev_c) ?_
      refine WL.nil ?_
      refine WC.cond0 rfl ?_
      refine WC.skip ?_
      refine WC.seq ?_
      refine WC.block ?_
      have hns : ¬ (em = true ∧ p.src = p.dst) := fun h => by rw [← he9] at h; cases h.1
      refine WC.loopN (I := fun N9 ρ w => ∃ (pre lk : List Pc) (lw : Value), N9 = lk.length ∧ lk.length ≤ lo.length ∧ pre ++ ins em p (tr.drop (k + 1)) lk = mrg em tr lo ∧ ρ 12 = I k ∧ ρ 11 = I tr.length ∧ ρ 10 = .slice at_ tr.length ct ∧ ρ 6 = .pointer (some ⟨b6, 0, none⟩) ∧ ρ 0 = .func (.yield l) #[] #[] ∧ ρ 2 = .pointer (some ⟨b3, 0, none⟩) ∧ ρ 3 = .pointer (some ⟨b5, 0, none⟩) ∧ Hd s w (J pre :: pt b4 (.cells #[(.slice at_ tr.length ct)] 38 (0, 0)) :: Sl (.slice at_ tr.length ct) 43 3 tr.length (tr.flatMap pcC) :: pt b3 (.cells #[.pointer (some ⟨ro, 0, none⟩)] 29 (0, 0)) :: pt b5 (.cells #[lw] 38 (0, 0)) :: Sl lw 43 3 lk.length (lk.flatMap pcC) :: pt ro (.cells #[.map (some mv), .pointer (some ⟨a, 0, none⟩), .pointer (some ⟨f, 0, none⟩)] 81 (0, 0)) :: fz g :: pt b6 (.cells (pcC p).toArray 43 (0, 0)) :: L)) (n0 := _) (⟨pre, lk, _, rfl, hll, by rw [← hM, hdr, mrg_ins hns], h12, h11, h10, rfl, h0, h2, h3, Hd.arrT [_, _, _, _, _, _, _, _, _] [1, 2, 3, 4, 5, 6, 7, 8, 0] (by decide) rfl H⟩) ?_
      repeat clear H
      clear hM hll
      rintro N9 ρ w ⟨pre, lk, lw, hN, hll, hM, h12, h11, h10, h6, h0, h2, h3, H⟩
      obtain ⟨al, cl, rfl⟩ := (H.sl 5 rfl).shape
      refine WC.seq ?_
      refine WC.seq ?_
      refine WC.draw mixed [8] [[], [0], [0, 1], [0, 1, 2], [0, 1, 2, 3], [0, 1, 2, 3, 4], [0, 1, 2, 3, 4, 5], [0, 1, 2, 3], [0, 1, 2, 3, 4, 5, 6, 7], [0, 1, 2, 3, 4, 5, 6, 7, 8], [0, 1, 2, 3, 4, 5, 6, 7, 8, 9]] [0, 1, 2, 3, 4, 5, 6, 7, 8, 9, 10] (by kernel_rfl) ?_
      have H := H.drew
      refine k_rd rfl rfl (RS.of rfl rfl (x_load Tryz.underlying38 rfl h3 (H.cellL 4 rfl rfl))) ?_
      refine k_rd rfl rfl (RS.of rfl rfl (x_lenSlice Tryz.underlying38 rfl rfl)) ?_
      refine k_rdD rfl rfl rfl rfl (x_gtr rfl rfl) (fun h27 => ?_) (fun h27 => ?_)
      ·
        obtain ⟨q, lk2, rfl⟩ : ∃ q lk2, lk = q :: lk2 := by
          cases lk with
          | nil => exact absurd h27 (by decide)
          | cons q lk2 => exact ⟨q, lk2, rfl⟩
        obtain ⟨bl, ol, rfl, -⟩ := (show RdS w _ 3 pcC (q :: lk2) from H.sl 5 rfl).el pcC_len (show (q :: lk2)[0]? = some q from rfl)
        have hcap := (H.cap 5 rfl).1
        refine k_rd rfl rfl (RS.of rfl rfl (x_move (by conv => lhs; whnf))) ?_
        refine k_rd rfl rfl (RS.yes rfl (wantY rfl rfl rfl) (x_load Tryz.underlying38 rfl h3 (H.cellL 4 rfl rfl))) ?_
        refine k_rd rfl rfl (RS.yes rfl (wantY rfl rfl rfl) (x_indexAddr Tryz.underlying38 ty43 rfl rfl (by omega) (by omega))) ?_
        refine k_rd rfl rfl (RS.yes rfl (wantY rfl rfl rfl) (x_loadF (vs := [_, _, _]) Tryz.underlying43 rfl ty43 rfl rfl (sub_row 0 (RdS.at pcC_len (show RdS _ _ 3 pcC (q :: lk2) from H.sl 5 rfl) (show (q :: lk2)[0]? = some q from rfl)) rfl))) ?_
        refine k_rd rfl rfl (RS.yes rfl (wantY rfl rfl rfl) (x_loadF (vs := [_, _, _]) Tryz.underlying43 rfl ty43 h6 rfl (H.cellsL 8 rfl rfl))) ?_
        refine k_st rfl rfl (wantY rfl rfl rfl) (s_callL cal86 (c86 _) ?_)
        rintro _ w ⟨rfl, e1⟩
        have H := H.ext e1
        refine ⟨⟨trivial, ⟨trivial, ⟨trivial, ⟨trivial, ⟨trivial, ⟨trivial, ⟨trivial, ⟨trivial, trivial⟩⟩⟩⟩⟩⟩⟩⟩, ?_⟩
        refine k_rdD rfl rfl (wantY rfl rfl rfl) rfl (x_lss rfl rfl) (fun h34 => ?_) (fun h34 => ?_)
        ·
          have hlt : cmpP q p < 0 := h34
          refine k_rd rfl rfl (RS.of rfl rfl (x_pick1 rfl (by conv => lhs; whnf))) ?_
          show _
          refine WC.cond1 rfl ?_
          refine WC.skip ?_
          refine WC.block ?_
          refine WC.seq ?_
          refine WC.region ?_
          refine l_rd rfl rfl (x_load Tryz.underlying38 rfl h3 (H.cellL 4 rfl rfl)) ?_
          refine l_rd rfl rfl (x_indexAddr Tryz.underlying38 ty43 rfl rfl (by omega) (by omega)) ?_
          refine l_rd rfl rfl (x_loadF (vs := [_, _, _]) Tryz.underlying43 rfl ty43 rfl rfl (sub_row 0 (RdS.at pcC_len (show RdS _ _ 3 pcC (q :: lk2) from H.sl 5 rfl) (show (q :: lk2)[0]? = some q from rfl)) rfl)) ?_
          refine l_st rfl (s_alloc ty43 H fun b7 w H => ?_)
          refine l_no (s_stA 0 rfl ty43 rfl (by conv => lhs; whnf) rfl rfl rfl H fun w H => ?_)
          refine WL.nil ?_
          refine WC.seq ?_
          refine WC.region ?_
          refine l_rd rfl rfl (x_load Tryz.underlying38 rfl h3 (H.cellL 5 rfl rfl)) ?_
          refine l_rd rfl rfl (x_sliceFromB (i := 1) Tryz.underlying38 ty43 rfl rfl (by omega) (by omega)) ?_
          refine l_no (s_st 5 rfl ty38 h3 (by conv => lhs; whnf) rfl rfl H fun w H => ?_)
          refine WL.nil ?_
          refine WC.seq ?_
          have H := Hd.behead (k := 1) (Hd.arrT [_, _, _, _, _, _, _, _, _, _] [6, 0, 1, 2, 3, 4, 5, 7, 8, 9] (by decide) rfl H) (by simp)
          rw [flat_drop pcC_len] at H
          change Hd s w (Sl _ 43 3 lk2.length (lk2.flatMap pcC) :: _) at H
          refine WC.region ?_
          refine l_rd rfl rfl (x_move h0) ?_
          refine l_rd rfl rfl (x_loadF (vs := [_, _, _]) Tryz.underlying43 rfl ty43 rfl rfl (H.cellsL 1 rfl rfl)) ?_
          have H := Hd.arrT [_, _, _, _, _, _, _, _, _, _] [2, 0, 1, 3, 4, 5, 6, 7, 8, 9] (by decide) rfl H
          refine l_st rfl (s_yieldL rfl (hy pre q [.agg (pcC q).toArray] _ _ ⟨ins em p (tr.drop (k + 1)) lk2, by rw [← hM, ins_lt hlt]⟩ (Hd.swp (Hd.pure rfl H))) ?_)
          rintro v w (⟨rfl, H⟩ | ⟨rfl, H⟩)
          ·
            refine l_rd rfl rfl (x_not rfl) ?_
            refine WL.nil ?_
            refine WC.cond0 rfl ?_
            refine WC.skip ?_
            exact ⟨rfl, lk2.length, by rw [hN]; simp, pre ++ [q], lk2, _, rfl, by simp at hll; omega, by rw [← hM, ins_lt hlt, List.append_assoc]; rfl, h12, h11, h10, h6, h0, h2, h3, Hd.arrT [_, _, _, _, _, _, _, _, _, _] [0, 3, 4, 5, 6, 1, 7, 8, 9] (by decide) rfl H⟩
          ·
            refine l_rd rfl rfl (x_not rfl) ?_
            refine WL.nil ?_
            refine WC.cond1 rfl ?_
            refine WC.ret ?_
            refine atRet ?_
            exact RetM.none' rfl (.inr ⟨pre, q, ⟨ins em p (tr.drop (k + 1)) lk2, by rw [← hM, ins_lt hlt]⟩, Hd.swp (Hd.sep (A := [pt ro (.cells #[.map (some mv), .pointer (some ⟨a, 0, none⟩), .pointer (some ⟨f, 0, none⟩)] 81 (0, 0)), fz g]) (Hd.arrT [_, _, _, _, _, _, _, _, _, _] [7, 8, 0] (by decide) rfl H))⟩)
        ·
          have hge : ∀ q9 lo2, q :: lk2 = q9 :: lo2 → ¬ cmpP q9 p < 0 := fun q9 lo2 e => by cases e; exact h34
          refine k_rd rfl rfl (RS.of rfl rfl (x_pick1 rfl (by conv => lhs; whnf))) ?_
          show _
          refine WC.cond0 rfl ?_
          refine WC.exit ?_
          refine WC.seq ?_
          refine WC.region ?_
          refine l_rd rfl rfl (x_move h0) ?_
          refine l_rd rfl rfl (x_loadF (vs := [_, _, _]) Tryz.underlying43 rfl ty43 h6 rfl (H.cellsL 8 rfl rfl)) ?_
          have H := Hd.arrT [_, _, _, _, _, _, _, _, _] [0, 1, 2, 3, 4, 5, 6, 7, 8] (by decide) rfl H
          refine l_st rfl (s_yieldL rfl (hy pre p [.agg (pcC p).toArray] _ _ ⟨mrg em (tr.drop (k + 1)) (q :: lk2), by rw [← hM, ins_ge hge]⟩ (Hd.swp (Hd.pure rfl H))) ?_)
          rintro v w (⟨rfl, H⟩ | ⟨rfl, H⟩)
          ·
            refine l_rd rfl rfl (x_not rfl) ?_
            refine WL.nil ?_
            refine WC.cond0 rfl ?_
            refine WC.skip ?_
            refine WC.region ?_
            refine l_rd rfl rfl (x_add h12 rfl (by omega) (by omega)) ?_
            refine l_rd rfl rfl (x_move (by conv => lhs; whnf)) ?_
            refine WL.nil ?_
            refine WC.again (⟨k + 1, pre ++ [p], (q :: lk2), _, by omega, hll, by rw [List.append_assoc]; rw [← hM, ins_ge hge]; rfl, rfl, h11, h10, h0, h2, h3, rfl, Hd.arrT [_, _, _, _, _, _, _, _, _] [0, 1, 2, 3, 4, 5, 6, 7] (by decide) rfl H⟩) (by show _ - _ < _ - _; rw [h12o]; show tr.length - ((k : Int) + 1).toNat < tr.length - (k : Int).toNat; omega)
          ·
            refine l_rd rfl rfl (x_not rfl) ?_
            refine WL.nil ?_
            refine WC.cond1 rfl ?_
            refine WC.ret ?_
            refine atRet ?_
            exact RetM.none' rfl (.inr ⟨pre, p, ⟨mrg em (tr.drop (k + 1)) (q :: lk2), by rw [← hM, ins_ge hge]⟩, Hd.swp (Hd.sep (A := [pt ro (.cells #[.map (some mv), .pointer (some ⟨a, 0, none⟩), .pointer (some ⟨f, 0, none⟩)] 81 (0, 0)), fz g]) (Hd.arrT [_, _, _, _, _, _, _, _, _] [6, 7, 0] (by decide) rfl H))⟩)
      ·
        have hge : ∀ q lo2, lk = q :: lo2 → ¬ cmpP q p < 0 := fun q lo2 e => by subst e; exact absurd (show (0 : Int) < (q :: lo2).length by simp only [List.length_cons]; omega) h27
        refine k_rd rfl rfl (RS.of rfl rfl (x_move (by conv => lhs; whnf))) ?_
        refine k_rd rfl rfl (RS.no rfl (wantN rfl rfl rfl)) ?_
        refine k_rd rfl rfl (RS.no rfl (wantN rfl rfl rfl)) ?_
        refine k_rd rfl rfl (RS.no rfl (wantN rfl rfl rfl)) ?_
        refine k_rd rfl rfl (RS.no rfl (wantN rfl rfl rfl)) ?_
        refine k_un rfl rfl (wantN rfl rfl rfl) (⟨trivial, ⟨trivial, ⟨trivial, ⟨trivial, ⟨trivial, ⟨trivial, ⟨trivial, ⟨trivial, trivial⟩⟩⟩⟩⟩⟩⟩⟩) ?_
        refine k_rd rfl rfl (RS.no rfl (wantN rfl rfl rfl)) ?_
        refine k_rd rfl rfl (RS.of rfl rfl (x_pick0 rfl ev_c)) ?_
        show _
        refine WC.cond0 rfl ?_
        refine WC.exit ?_
        refine WC.seq ?_
        refine WC.region ?_
        refine l_rd rfl rfl (x_move h0) ?_
        refine l_rd rfl rfl (x_loadF (vs := [_, _, _]) Tryz.underlying43 rfl ty43 h6 rfl (H.cellsL 8 rfl rfl)) ?_
        have H := Hd.arrT [_, _, _, _, _, _, _, _, _] [0, 1, 2, 3, 4, 5, 6, 7, 8] (by decide) rfl H
        refine l_st rfl (s_yieldL rfl (hy pre p [.agg (pcC p).toArray] _ _ ⟨mrg em (tr.drop (k + 1)) lk, by rw [← hM, ins_ge hge]⟩ (Hd.swp (Hd.pure rfl H))) ?_)
        rintro v w (⟨rfl, H⟩ | ⟨rfl, H⟩)
        ·
          refine l_rd rfl rfl (x_not rfl) ?_
          refine WL.nil ?_
          refine WC.cond0 rfl ?_
          refine WC.skip ?_
          refine WC.region ?_
          refine l_rd rfl rfl (x_add h12 rfl (by omega) (by omega)) ?_
          refine l_rd rfl rfl (x_move (by conv => lhs; whnf)) ?_
          refine WL.nil ?_
          refine WC.again (⟨k + 1, pre ++ [p], lk, _, by omega, hll, by rw [List.append_assoc]; rw [← hM, ins_ge hge]; rfl, rfl, h11, h10, h0, h2, h3, rfl, Hd.arrT [_, _, _, _, _, _, _, _, _] [0, 1, 2, 3, 4, 5, 6, 7] (by decide) rfl H⟩) (by show _ - _ < _ - _; rw [h12o]; show tr.length - ((k : Int) + 1).toNat < tr.length - (k : Int).toNat; omega)
        ·
          refine l_rd rfl rfl (x_not rfl) ?_
          refine WL.nil ?_
          refine WC.cond1 rfl ?_
          refine WC.ret ?_
          refine atRet ?_
          exact RetM.none' rfl (.inr ⟨pre, p, ⟨mrg em (tr.drop (k + 1)) lk, by rw [← hM, ins_ge hge]⟩, Hd.swp (Hd.sep (A := [pt ro (.cells #[.map (some mv), .pointer (some ⟨a, 0, none⟩), .pointer (some ⟨f, 0, none⟩)] 81 (0, 0)), fz g]) (Hd.arrT [_, _, _, _, _, _, _, _, _] [6, 7, 0] (by decide) rfl H))⟩)
    ·
      refine WC.region ?_
      refine l_rd rfl rfl (x_load Tryz.underlying29 rfl h2 (H.cellL 4 rfl rfl)) ?_
      refine l_st rfl (s_callL cal37 (c37 _ (H.obj 7 rfl) (hA.rd (H.fz 8 rfl)) hE.1) ?_)
      rintro r w ⟨hr1, e1⟩
      have H := H.ext e1
      obtain rfl : r = .bool true := hr1.trans (by rw [← hem, ← he9])
      refine l_rd rfl rfl (x_move (by conv => lhs; whnf)) ?_
      refine l_gy (wantY rfl rfl rfl) rfl rfl (x_fieldAddr (k := 0) Tryz.underlying43 rfl rfl ty9 (by decide) rfl) ?_
      refine l_gy (wantY rfl rfl rfl) rfl rfl (x_load Tryz.underlying9 rfl rfl (H.cellL 0 rfl rfl)) ?_
      refine l_gy (wantY rfl rfl rfl) rfl rfl (x_fieldAddr (k := 1) Tryz.underlying43 rfl rfl ty9 (by decide) rfl) ?_
      refine l_gy (wantY rfl rfl rfl) rfl rfl (x_load Tryz.underlying9 rfl rfl (H.cellL 0 rfl rfl)) ?_
      refine l_gyD (wantY rfl rfl rfl) rfl rfl (x_eqlS rfl rfl) (fun h23 => ?_) (fun h23 => ?_)
      ·
        have hsk : em = true ∧ p.src = p.dst := ⟨he9.symm, h23⟩
        refine l_rd rfl rfl (x_pick1 rfl (by conv => lhs; whnf)) ?_
        refine WL.nil ?_
        refine WC.cond1 rfl ?_
        refine WC.exit ?_
        refine WC.region ?_
        refine l_rd rfl rfl (x_add h12 rfl (by omega) (by omega)) ?_
        refine l_rd rfl rfl (x_move (by conv => lhs; whnf)) ?_
        refine WL.nil ?_
        refine WC.again (⟨k + 1, pre, lk, _, by omega, hll, by rw [← hM, hdr, mrg_skip hsk], rfl, h11, h10, h0, h2, h3, rfl, Hd.arrT [_, _, _, _, _, _, _, _, _] [1, 2, 3, 4, 5, 6, 7, 8] (by decide) rfl H⟩) (by show _ - _ < _ - _; rw [h12o]; show tr.length - ((k : Int) + 1).toNat < tr.length - (k : Int).toNat; omega)
      ·
        refine l_rd rfl rfl (x_pick1 rfl (by conv => lhs; whnf)) ?_
        refine WL.nil ?_
        refine WC.cond0 rfl ?_
        refine WC.skip ?_
        refine WC.seq ?_
        refine WC.block ?_
        have hns : ¬ (em = true ∧ p.src = p.dst) := fun h => h23 h.2
        refine WC.loopN (I := fun N9 ρ w => ∃ (pre lk : List Pc) (lw : Value), N9 = lk.length ∧ lk.length ≤ lo.length ∧ pre ++ ins em p (tr.drop (k + 1)) lk = mrg em tr lo ∧ ρ 12 = I k ∧ ρ 11 = I tr.length ∧ ρ 10 = .slice at_ tr.length ct ∧ ρ 6 = .pointer (some ⟨b6, 0, none⟩) ∧ ρ 0 = .func (.yield l) #[] #[] ∧ ρ 2 = .pointer (some ⟨b3, 0, none⟩) ∧ ρ 3 = .pointer (some ⟨b5, 0, none⟩) ∧ Hd s w (J pre :: pt b4 (.cells #[(.slice at_ tr.length ct)] 38 (0, 0)) :: Sl (.slice at_ tr.length ct) 43 3 tr.length (tr.flatMap pcC) :: pt b3 (.cells #[.pointer (some ⟨ro, 0, none⟩)] 29 (0, 0)) :: pt b5 (.cells #[lw] 38 (0, 0)) :: Sl lw 43 3 lk.length (lk.flatMap pcC) :: pt ro (.cells #[.map (some mv), .pointer (some ⟨a, 0, none⟩), .pointer (some ⟨f, 0, none⟩)] 81 (0, 0)) :: fz g :: pt b6 (.cells (pcC p).toArray 43 (0, 0)) :: L)) (n0 := _) (⟨pre, lk, _, rfl, hll, by rw [← hM, hdr, mrg_ins hns], h12, h11, h10, rfl, h0, h2, h3, Hd.arrT [_, _, _, _, _, _, _, _, _] [1, 2, 3, 4, 5, 6, 7, 8, 0] (by decide) rfl H⟩) ?_
        repeat clear H
        clear hM hll
        rintro N9 ρ w ⟨pre, lk, lw, hN, hll, hM, h12, h11, h10, h6, h0, h2, h3, H⟩
        obtain ⟨al, cl, rfl⟩ := (H.sl 5 rfl).shape
        refine WC.seq ?_
        refine WC.seq ?_
        refine WC.draw mixed [8] [[], [0], [0, 1], [0, 1, 2], [0, 1, 2, 3], [0, 1, 2, 3, 4], [0, 1, 2, 3, 4, 5], [0, 1, 2, 3], [0, 1, 2, 3, 4, 5, 6, 7], [0, 1, 2, 3, 4, 5, 6, 7, 8], [0, 1, 2, 3, 4, 5, 6, 7, 8, 9]] [0, 1, 2, 3, 4, 5, 6, 7, 8, 9, 10] (by kernel_rfl) ?_
        have H := H.drew
        refine k_rd rfl rfl (RS.of rfl rfl (x_load Tryz.underlying38 rfl h3 (H.cellL 4 rfl rfl))) ?_
        refine k_rd rfl rfl (RS.of rfl rfl (x_lenSlice Tryz.underlying38 rfl rfl)) ?_
        refine k_rdD rfl rfl rfl rfl (x_gtr rfl rfl) (fun h27 => ?_) (fun h27 => ?_)
        ·
          obtain ⟨q, lk2, rfl⟩ : ∃ q lk2, lk = q :: lk2 := by
            cases lk with
            | nil => exact absurd h27 (by decide)
            | cons q lk2 => exact ⟨q, lk2, rfl⟩
          obtain ⟨bl, ol, rfl, -⟩ := (show RdS w _ 3 pcC (q :: lk2) from H.sl 5 rfl).el pcC_len (show (q :: lk2)[0]? = some q from rfl)
          have hcap := (H.cap 5 rfl).1
          refine k_rd rfl rfl (RS.of rfl rfl (x_move (by conv => lhs; whnf))) ?_
          refine k_rd rfl rfl (RS.yes rfl (wantY rfl rfl rfl) (x_load Tryz.underlying38 rfl h3 (H.cellL 4 rfl rfl))) ?_
          refine k_rd rfl rfl (RS.yes rfl (wantY rfl rfl rfl) (x_indexAddr Tryz.underlying38 ty43 rfl rfl (by omega) (by omega))) ?_
          refine k_rd rfl rfl (RS.yes rfl (wantY rfl rfl rfl) (x_loadF (vs := [_, _, _]) Tryz.underlying43 rfl ty43 rfl rfl (sub_row 0 (RdS.at pcC_len (show RdS _ _ 3 pcC (q :: lk2) from H.sl 5 rfl) (show (q :: lk2)[0]? = some q from rfl)) rfl))) ?_
          refine k_rd rfl rfl (RS.yes rfl (wantY rfl rfl rfl) (x_loadF (vs := [_, _, _]) Tryz.underlying43 rfl ty43 h6 rfl (H.cellsL 8 rfl rfl))) ?_
          refine k_st rfl rfl (wantY rfl rfl rfl) (s_callL cal86 (c86 _) ?_)
          rintro _ w ⟨rfl, e1⟩
          have H := H.ext e1
          refine ⟨⟨trivial, ⟨trivial, ⟨trivial, ⟨trivial, ⟨trivial, ⟨trivial, ⟨trivial, ⟨trivial, trivial⟩⟩⟩⟩⟩⟩⟩⟩, ?_⟩
          refine k_rdD rfl rfl (wantY rfl rfl rfl) rfl (x_lss rfl rfl) (fun h34 => ?_) (fun h34 => ?_)
          ·
            have hlt : cmpP q p < 0 := h34
            refine k_rd rfl rfl (RS.of rfl rfl (x_pick1 rfl (by conv => lhs; whnf))) ?_
            show _
            refine WC.cond1 rfl ?_
            refine WC.skip ?_
            refine WC.block ?_
            refine WC.seq ?_
            refine WC.region ?_
            refine l_rd rfl rfl (x_load Tryz.underlying38 rfl h3 (H.cellL 4 rfl rfl)) ?_
            refine l_rd rfl rfl (x_indexAddr Tryz.underlying38 ty43 rfl rfl (by omega) (by omega)) ?_
            refine l_rd rfl rfl (x_loadF (vs := [_, _, _]) Tryz.underlying43 rfl ty43 rfl rfl (sub_row 0 (RdS.at pcC_len (show RdS _ _ 3 pcC (q :: lk2) from H.sl 5 rfl) (show (q :: lk2)[0]? = some q from rfl)) rfl)) ?_
            refine l_st rfl (s_alloc ty43 H fun b7 w H => ?_)
            refine l_no (s_stA 0 rfl ty43 rfl (by conv => lhs; whnf) rfl rfl rfl H fun w H => ?_)
            refine WL.nil ?_
            refine WC.seq ?_
            refine WC.region ?_
            refine l_rd rfl rfl (x_load Tryz.underlying38 rfl h3 (H.cellL 5 rfl rfl)) ?_
            refine l_rd rfl rfl (x_sliceFromB (i := 1) Tryz.underlying38 ty43 rfl rfl (by omega) (by omega)) ?_
            refine l_no (s_st 5 rfl ty38 h3 (by conv => lhs; whnf) rfl rfl H fun w H => ?_)
            refine WL.nil ?_
            refine WC.seq ?_
            have H := Hd.behead (k := 1) (Hd.arrT [_, _, _, _, _, _, _, _, _, _] [6, 0, 1, 2, 3, 4, 5, 7, 8, 9] (by decide) rfl H) (by simp)
            rw [flat_drop pcC_len] at H
            change Hd s w (Sl _ 43 3 lk2.length (lk2.flatMap pcC) :: _) at H
            refine WC.region ?_
            refine l_rd rfl rfl (x_move h0) ?_
            refine l_rd rfl rfl (x_loadF (vs := [_, _, _]) Tryz.underlying43 rfl ty43 rfl rfl (H.cellsL 1 rfl rfl)) ?_
            have H := Hd.arrT [_, _, _, _, _, _, _, _, _, _] [2, 0, 1, 3, 4, 5, 6, 7, 8, 9] (by decide) rfl H
            refine l_st rfl (s_yieldL rfl (hy pre q [.agg (pcC q).toArray] _ _ ⟨ins em p (tr.drop (k + 1)) lk2, by rw [← hM, ins_lt hlt]⟩ (Hd.swp (Hd.pure rfl H))) ?_)
            rintro v w (⟨rfl, H⟩ | ⟨rfl, H⟩)
            ·
              refine l_rd rfl rfl (x_not rfl) ?_
              refine WL.nil ?_
              refine WC.cond0 rfl ?_
              refine WC.skip ?_
              exact ⟨rfl, lk2.length, by rw [hN]; simp, pre ++ [q], lk2, _, rfl, by simp at hll; omega, by rw [← hM, ins_lt hlt, List.append_assoc]; rfl, h12, h11, h10, h6, h0, h2, h3, Hd.arrT [_, _, _, _, _, _, _, _, _, _] [0, 3, 4, 5, 6, 1, 7, 8, 9] (by decide) rfl H⟩
            ·
              refine l_rd rfl rfl (x_not rfl) ?_
              refine WL.nil ?_
              refine WC.cond1 rfl ?_
              refine WC.ret ?_
              refine atRet ?_
              exact RetM.none' rfl (.inr ⟨pre, q, ⟨ins em p (tr.drop (k + 1)) lk2, by rw [← hM, ins_lt hlt]⟩, Hd.swp (Hd.sep (A := [pt ro (.cells #[.map (some mv), .pointer (some ⟨a, 0, none⟩), .pointer (some ⟨f, 0, none⟩)] 81 (0, 0)), fz g]) (Hd.arrT [_, _, _, _, _, _, _, _, _, _] [7, 8, 0] (by decide) rfl H))⟩)
          ·
            have hge : ∀ q9 lo2, q :: lk2 = q9 :: lo2 → ¬ cmpP q9 p < 0 := fun q9 lo2 e => by cases e; exact h34
            refine k_rd rfl rfl (RS.of rfl rfl (x_pick1 rfl (by conv => lhs; whnf))) ?_
            show _
            refine WC.cond0 rfl ?_
            refine WC.exit ?_
            refine WC.seq ?_
            refine WC.region ?_
            refine l_rd rfl rfl (x_move h0) ?_
            refine l_rd rfl rfl (x_loadF (vs := [_, _, _]) Tryz.underlying43 rfl ty43 h6 rfl (H.cellsL 8 rfl rfl)) ?_
            have H := Hd.arrT [_, _, _, _, _, _, _, _, _] [0, 1, 2, 3, 4, 5, 6, 7, 8] (by decide) rfl H
            refine l_st rfl (s_yieldL rfl (hy pre p [.agg (pcC p).toArray] _ _ ⟨mrg em (tr.drop (k + 1)) (q :: lk2), by rw [← hM, ins_ge hge]⟩ (Hd.swp (Hd.pure rfl H))) ?_)
            rintro v w (⟨rfl, H⟩ | ⟨rfl, H⟩)
            ·
              refine l_rd rfl rfl (x_not rfl) ?_
              refine WL.nil ?_
              refine WC.cond0 rfl ?_
              refine WC.skip ?_
              refine WC.region ?_
              refine l_rd rfl rfl (x_add h12 rfl (by omega) (by omega)) ?_
              refine l_rd rfl rfl (x_move (by conv => lhs; whnf)) ?_
              refine WL.nil ?_
              refine WC.again (⟨k + 1, pre ++ [p], (q :: lk2), _, by omega, hll, by rw [List.append_assoc]; rw [← hM, ins_ge hge]; rfl, rfl, h11, h10, h0, h2, h3, rfl, Hd.arrT [_, _, _, _, _, _, _, _, _] [0, 1, 2, 3, 4, 5, 6, 7] (by decide) rfl H⟩) (by show _ - _ < _ - _; rw [h12o]; show tr.length - ((k : Int) + 1).toNat < tr.length - (k : Int).toNat; omega)
            ·
              refine l_rd rfl rfl (x_not rfl) ?_
              refine WL.nil ?_
              refine WC.cond1 rfl ?_
              refine WC.ret ?_
              refine atRet ?_
              exact RetM.none' rfl (.inr ⟨pre, p, ⟨mrg em (tr.drop (k + 1)) (q :: lk2), by rw [← hM, ins_ge hge]⟩, Hd.swp (Hd.sep (A := [pt ro (.cells #[.map (some mv), .pointer (some ⟨a, 0, none⟩), .pointer (some ⟨f, 0, none⟩)] 81 (0, 0)), fz g]) (Hd.arrT [_, _, _, _, _, _, _, _, _] [6, 7, 0] (by decide) rfl H))⟩)
        ·
          have hge : ∀ q lo2, lk = q :: lo2 → ¬ cmpP q p < 0 := fun q lo2 e => by subst e; exact absurd (show (0 : Int) < (q :: lo2).length by simp only [List.length_cons]; omega) h27
          refine k_rd rfl rfl (RS.of rfl rfl (x_move (by conv => lhs; whnf))) ?_
          refine k_rd rfl rfl (RS.no rfl (wantN rfl rfl rfl)) ?_
          refine k_rd rfl rfl (RS.no rfl (wantN rfl rfl rfl)) ?_
          refine k_rd rfl rfl (RS.no rfl (wantN rfl rfl rfl)) ?_
          refine k_rd rfl rfl (RS.no rfl (wantN rfl rfl rfl)) ?_
          refine k_un rfl rfl (wantN rfl rfl rfl) (⟨trivial, ⟨trivial, ⟨trivial, ⟨trivial, ⟨trivial, ⟨trivial, ⟨trivial, ⟨trivial, trivial⟩⟩⟩⟩⟩⟩⟩⟩) ?_
          refine k_rd rfl rfl (RS.no rfl (wantN rfl rfl rfl)) ?_
          refine k_rd rfl rfl (RS.of rfl rfl (x_pick0 rfl ev_c)) ?_
          show _
          refine WC.cond0 rfl ?_
          refine WC.exit ?_
          refine WC.seq ?_
          refine WC.region ?_
          refine l_rd rfl rfl (x_move h0) ?_
          refine l_rd rfl rfl (x_loadF (vs := [_, _, _]) Tryz.underlying43 rfl ty43 h6 rfl (H.cellsL 8 rfl rfl)) ?_
          have H := Hd.arrT [_, _, _, _, _, _, _, _, _] [0, 1, 2, 3, 4, 5, 6, 7, 8] (by decide) rfl H
          refine l_st rfl (s_yieldL rfl (hy pre p [.agg (pcC p).toArray] _ _ ⟨mrg em (tr.drop (k + 1)) lk, by rw [← hM, ins_ge hge]⟩ (Hd.swp (Hd.pure rfl H))) ?_)
          rintro v w (⟨rfl, H⟩ | ⟨rfl, H⟩)
          ·
            refine l_rd rfl rfl (x_not rfl) ?_
            refine WL.nil ?_
            refine WC.cond0 rfl ?_
            refine WC.skip ?_
            refine WC.region ?_
            refine l_rd rfl rfl (x_add h12 rfl (by omega) (by omega)) ?_
            refine l_rd rfl rfl (x_move (by conv => lhs; whnf)) ?_
            refine WL.nil ?_
            refine WC.again (⟨k + 1, pre ++ [p], lk, _, by omega, hll, by rw [List.append_assoc]; rw [← hM, ins_ge hge]; rfl, rfl, h11, h10, h0, h2, h3, rfl, Hd.arrT [_, _, _, _, _, _, _, _, _] [0, 1, 2, 3, 4, 5, 6, 7] (by decide) rfl H⟩) (by show _ - _ < _ - _; rw [h12o]; show tr.length - ((k : Int) + 1).toNat < tr.length - (k : Int).toNat; omega)
          ·
            refine l_rd rfl rfl (x_not rfl) ?_
            refine WL.nil ?_
            refine WC.cond1 rfl ?_
            refine WC.ret ?_
            refine atRet ?_
            exact RetM.none' rfl (.inr ⟨pre, p, ⟨mrg em (tr.drop (k + 1)) lk, by rw [← hM, ins_ge hge]⟩, Hd.swp (Hd.sep (A := [pt ro (.cells #[.map (some mv), .pointer (some ⟨a, 0, none⟩), .pointer (some ⟨f, 0, none⟩)] 81 (0, 0)), fz g]) (Hd.arrT [_, _, _, _, _, _, _, _, _] [6, 7, 0] (by decide) rfl H))⟩)
  ·
    refine WL.nil ?_
    refine WC.seq ?_
    refine WC.cond0 rfl ?_
    refine WC.exit ?_
    refine WC.seq ?_
    obtain ⟨al, cl, rfl⟩ := (H.sl 5 rfl).shape
    refine WC.region ?_
    refine l_rd rfl rfl (x_load Tryz.underlying38 rfl h3 (H.cellL 4 rfl rfl)) ?_
    refine l_rd rfl rfl (x_lenSlice Tryz.underlying38 rfl rfl) ?_
    refine l_rd rfl rfl (x_move ev_c) ?_
    refine WL.nil ?_
    refine WC.block ?_
    have hk2 : k = tr.length := by omega
    subst hk2
    rw [List.drop_length] at hM
    refine WC.loop (fun ρ ds w => ∃ (j : Nat) (pre : List Pc), j ≤ lk.length ∧ pre ++ lk.drop j = mrg em tr lo ∧ ρ 52 = I j ∧ ρ 51 = I lk.length ∧ ρ 50 = .slice al lk.length cl ∧ ρ 0 = .func (.yield l) #[] #[] ∧ ds = [] ∧ Hd s w (J pre :: pt b4 (.cells #[(.slice at_ tr.length ct)] 38 (0, 0)) :: Sl (.slice at_ tr.length ct) 43 3 tr.length (tr.flatMap pcC) :: pt b3 (.cells #[.pointer (some ⟨ro, 0, none⟩)] 29 (0, 0)) :: pt b5 (.cells #[(.slice al lk.length cl)] 38 (0, 0)) :: Sl (.slice al lk.length cl) 43 3 lk.length (lk.flatMap pcC) :: pt ro (.cells #[.map (some mv), .pointer (some ⟨a, 0, none⟩), .pointer (some ⟨f, 0, none⟩)] 81 (0, 0)) :: fz g :: L)) (fun ρ w => lk.length - (match ρ 52 with | .int _ k => k.toNat | _ => 0)) (⟨0, pre, Nat.zero_le _, hM, rfl, rfl, rfl, h0, rfl, Hd.arrT [_, _, _, _, _, _, _, _] [0, 1, 2, 3, 4, 5, 6, 7] (by decide) rfl H⟩) ?_
    repeat clear H
    rintro ρ ds w ⟨j, pre, hj, hM, h52, h51, h50, h0, rfl, H⟩
    have h52o := h52
    have htl := (H.sl 5 rfl).1.2
    refine WC.seq ?_
    refine WC.region ?_
    refine l_rdD rfl rfl (x_lss h52 h51) (fun h53 => ?_) (fun h53 => ?_)
    ·
      refine WL.nil ?_
      refine WC.seq ?_
      refine WC.cond1 rfl ?_
      refine WC.skip ?_
      refine WC.seq ?_
      refine WC.block ?_
      refine WC.seq ?_
      obtain ⟨q, hq⟩ := lt_get (show j < lk.length by omega)
      have hdr : lk.drop j = q :: lk.drop (j + 1) := drop_at hq
      obtain ⟨bq, oq, rfl, -⟩ := (show RdS w _ 3 pcC lk from H.sl 5 rfl).el pcC_len hq
      refine WC.region ?_
      refine l_rd rfl rfl (x_indexAddr Tryz.underlying38 ty43 h50 h52 (by omega) (by omega)) ?_
      refine l_rd rfl rfl (x_loadF (vs := [_, _, _]) Tryz.underlying43 rfl ty43 rfl rfl (sub_row 0 (RdS.at pcC_len (show RdS _ _ 3 pcC lk from H.sl 5 rfl) hq) rfl)) ?_
      refine l_st rfl (s_alloc ty43 H fun b9 w H => ?_)
      refine l_no (s_stA 0 rfl ty43 rfl (by conv => lhs; whnf) rfl rfl rfl H fun w H => ?_)
      refine WL.nil ?_
      refine WC.seq ?_
      refine WC.region ?_
      refine l_rd rfl rfl (x_move h0) ?_
      refine l_rd rfl rfl (x_loadF (vs := [_, _, _]) Tryz.underlying43 rfl ty43 rfl rfl (H.cellsL 0 rfl rfl)) ?_
      have H := Hd.arrT [_, _, _, _, _, _, _, _, _] [1, 0, 2, 3, 4, 5, 6, 7, 8] (by decide) rfl H
      refine l_st rfl (s_yieldL rfl (hy pre q [.agg (pcC q).toArray] _ _ ⟨lk.drop (j + 1), by rw [← hM, hdr]⟩ (Hd.swp (Hd.pure rfl H))) ?_)
      rintro v w (⟨rfl, H⟩ | ⟨rfl, H⟩)
      ·
        refine l_rd rfl rfl (x_not rfl) ?_
        refine WL.nil ?_
        refine WC.cond0 rfl ?_
        refine WC.skip ?_
        refine WC.region ?_
        refine l_rd rfl rfl (x_add h52 rfl (by omega) (by omega)) ?_
        refine l_rd rfl rfl (x_move (by conv => lhs; whnf)) ?_
        refine WL.nil ?_
        refine WC.again (⟨j + 1, pre ++ [q], by omega, by rw [List.append_assoc, ← hM, hdr]; rfl, rfl, h51, h50, h0, rfl, Hd.arrT [_, _, _, _, _, _, _, _, _] [0, 2, 3, 4, 5, 6, 7, 8] (by decide) rfl H⟩) (by show _ - _ < _ - _; rw [h52o]; show lk.length - ((j : Int) + 1).toNat < lk.length - (j : Int).toNat; omega)
      ·
        refine l_rd rfl rfl (x_not rfl) ?_
        refine WL.nil ?_
        refine WC.cond1 rfl ?_
        refine WC.ret ?_
        refine atRet ?_
        exact RetM.none' rfl (.inr ⟨pre, q, ⟨lk.drop (j + 1), by rw [← hM, hdr]⟩, Hd.swp (Hd.sep (A := [pt ro (.cells #[.map (some mv), .pointer (some ⟨a, 0, none⟩), .pointer (some ⟨f, 0, none⟩)] 81 (0, 0)), fz g]) (Hd.arrT [_, _, _, _, _, _, _, _, _] [7, 8, 0] (by decide) rfl H))⟩)
    ·
      refine WL.nil ?_
      refine WC.seq ?_
      refine WC.cond0 rfl ?_
      refine WC.exit ?_
      refine atEnd ?_
      exact RetM.none' rfl (.inl ⟨pre, by rw [List.drop_of_length_le (by omega), List.append_nil] at hM; exact hM, Hd.swp (Hd.sep (A := [pt ro (.cells #[.map (some mv), .pointer (some ⟨a, 0, none⟩), .pointer (some ⟨f, 0, none⟩)] 81 (0, 0)), fz g]) (Hd.arrT [_, _, _, _, _, _, _, _] [6, 7, 0] (by decide) rfl H))⟩)
theorem c40 {s : Sy} [NoEx s] {L : List Hp} {ro tn tc ln lc : Nat} {ta la : Option Addr} (w : World) (H : Hd s w L) : CC Tryz.prog 40 [.pointer (some ⟨ro, 0, none⟩), .slice ta tn tc, .slice la ln lc].toArray w (fun r w' => ∃ b3 b4 b5 : Nat, r = .func (.func 88) #[] #[.pointer (some ⟨b4, 0, none⟩), .pointer (some ⟨b3, 0, none⟩), .pointer (some ⟨b5, 0, none⟩)] ∧ Hd s w' (pt b4 (.cells #[.slice ta tn tc] 38 (0, 0)) :: pt b3 (.cells #[.pointer (some ⟨ro, 0, none⟩)] 29 (0, 0)) :: pt b5 (.cells #[.slice la ln lc] 38 (0, 0)) :: L)) := by
  refine CC.of (N := 8) Tryz.func40 rfl rfl rfl ?_
  refine WC.seq ?_
  refine WC.region ?_
  refine l_st rfl (s_box (by conv => lhs; whnf) H fun b3 w H => ?_)
  refine l_st rfl (s_box (by conv => lhs; whnf) H fun b4 w H => ?_)
  refine l_st rfl (s_box (by conv => lhs; whnf) H fun b5 w H => ?_)
  refine l_rd rfl rfl (x_assign ev_c) ?_
  refine WL.nil ?_
  refine WC.seq ?_
  refine WC.region ?_
  refine l_rd rfl rfl (x_makeFuncL) ?_
  refine l_rd rfl rfl (x_assign (by conv => lhs; whnf)) ?_
  refine WL.nil ?_
  refine WC.ret ?_
  refine atRet ?_
  exact RetM.one rfl (by (conv => lhs; whnf); try rfl) (⟨b3, b4, b5, rfl, Hd.arrT [_, _, _] [1, 2, 0] (by decide) rfl H⟩)
theorem ty79 : Ty Tryz.prog 79 (.agg #[(.map none)]) 1 8 := Ty.of (by kernel_rfl)
theorem ty81 : Ty Tryz.prog 81 (.agg #[(.map none), (.pointer none), (.pointer none)]) 3 24 := Ty.of (by kernel_rfl)
theorem cal30 : Cal Tryz.prog 30 := ⟨_, Tryz.func30, rfl, by decide⟩
theorem cal31 : Cal Tryz.prog 31 := ⟨_, Tryz.func31, rfl, by decide⟩
theorem cal33 : Cal Tryz.prog 33 := ⟨_, Tryz.func33, rfl, by decide⟩
theorem cal34 : Cal Tryz.prog 34 := ⟨_, Tryz.func34, rfl, by decide⟩
theorem cal35 : Cal Tryz.prog 35 := ⟨_, Tryz.func35, rfl, by decide⟩
theorem cal36 : Cal Tryz.prog 36 := ⟨_, Tryz.func36, rfl, by decide⟩
theorem cal38 : Cal Tryz.prog 38 := ⟨_, Tryz.func38, rfl, by decide⟩
theorem cal39 : Cal Tryz.prog 39 := ⟨_, Tryz.func39, rfl, by decide⟩
theorem cal40 : Cal Tryz.prog 40 := ⟨_, Tryz.func40, rfl, by decide⟩
theorem cal70 : Cal Tryz.prog 70 := ⟨_, Tryz.func70, rfl, by decide⟩
theorem cal71 : Cal Tryz.prog 71 := ⟨_, Tryz.func71, rfl, by decide⟩
theorem cal88 : Cal Tryz.prog 88 := ⟨_, Tryz.func88, rfl, by decide⟩
theorem dfaF_ok {t : Et} {A : Gr} (h : dfaF t = some A) : okA A ∧ okTg A := by
  unfold dfaF at h
  cases hG : setsF (stepN (nfaT t).1) (labsT t) (finN (nfaT t).2 (emptyE t)) with
  | none => rw [hG] at h; cases h
  | some G =>
    rw [hG] at h
    simp only [Option.bind_some] at h
    split at h
    · cases h
    · cases h
      have h1 := leastF_ok (labsT_ok t).2.1 (setsF_ok (labsT_ok t).2.1 hG)
      refine ⟨⟨h1.2.2.1, h1.1, h1.2.1⟩, fun s lab s' hs => ?_⟩
      unfold stepA at hs
      have h2 := glook_mem hs
      by_cases hlt : s < (leastF G).rows.length
      · have e : (leastF G).rows.getD s [] = (leastF G).rows[s] := by
          rw [List.getD_eq_getElem?_getD, List.getElem?_eq_getElem hlt]; rfl
        rw [e] at h2
        exact (h1.2.2.2 _ (List.getElem_mem hlt)).2 _ h2
      · have e : (leastF G).rows.getD s [] = [] := by
          rw [List.getD_eq_getElem?_getD, List.getElem?_eq_none (by omega)]; rfl
        rw [e] at h2; cases h2
/-! ### trees and loops -/
def besT (em : Bool) (T1 T2 : Tm) : Tm := fun p => if em = true ∧ p.1 = p.2 then T2 p else T1 p
theorem mem_mrg {em : Bool} {x : Pc} : ∀ {tr lo : List Pc}, x ∈ mrg em tr lo ↔ (x ∈ tr ∧ ¬ (em = true ∧ x.src = x.dst)) ∨ x ∈ lo
  | [], lo => by simp [mrg]
  | p :: ts, lo => by
    rw [mrg]
    split
    · rename_i h
      rw [mem_mrg (tr := ts), List.mem_cons]
      constructor
      · rintro (h1 | h1)
        · exact .inl ⟨.inr h1.1, h1.2⟩
        · exact .inr h1
      · rintro (⟨rfl | h1, h2⟩ | h1)
        · exact absurd h h2
        · exact .inl ⟨h1, h2⟩
        · exact .inr h1
    · rename_i h
      rw [List.mem_append, List.mem_cons, mem_mrg (tr := ts), List.mem_cons]
      have e : ∀ x, x ∈ lo ↔ x ∈ lo.takeWhile (fun q => decide (cmpP q p < 0)) ∨ x ∈ lo.dropWhile (fun q => decide (cmpP q p < 0)) := fun x => by
        rw [← List.mem_append, List.takeWhile_append_dropWhile]
      rw [e]
      constructor
      · rintro (h1 | rfl | h1 | h1)
        · exact .inr (.inl h1)
        · exact .inl ⟨.inl rfl, h⟩
        · exact .inl ⟨.inr h1.1, h1.2⟩
        · exact .inr (.inr h1)
      · rintro (⟨rfl | h1, h2⟩ | h1 | h1)
        · exact .inr (.inl rfl)
        · exact .inr (.inr (.inl ⟨h1, h2⟩))
        · exact .inl h1
        · exact .inr (.inr (.inr h1))
theorem mrg_srt {em : Bool} : ∀ {tr lo : List Pc}, tr.Pairwise pLt → lo.Pairwise pLt → (∀ q ∈ lo, em = true ∧ q.src = q.dst) → (mrg em tr lo).Pairwise pLt
  | [], lo, _, h, _ => h
  | p :: ts, lo, h1, h2, h3 => by
    rw [List.pairwise_cons] at h1
    have hsub : ∀ x, x ∈ lo.dropWhile (fun q => decide (cmpP q p < 0)) → x ∈ lo := fun x hx => (List.dropWhile_sublist _).subset hx
    rw [mrg]
    split
    · exact mrg_srt h1.2 h2 h3
    · rename_i hp
      have hsplit := h2
      rw [← List.takeWhile_append_dropWhile (p := fun q => decide (cmpP q p < 0)) (l := lo), List.pairwise_append] at hsplit
      have hlt : ∀ x ∈ lo.takeWhile (fun q => decide (cmpP q p < 0)), pLt x p := fun x hx => (cmpP_lt x p).1 (of_decide_eq_true (List.all_eq_true.1 (List.all_takeWhile (p := fun q => decide (cmpP q p < 0))) x hx))
      have hgt : ∀ x ∈ lo.dropWhile (fun q => decide (cmpP q p < 0)), pLt p x := by
        intro x hx
        cases hd : lo.dropWhile (fun q => decide (cmpP q p < 0)) with
        | nil => rw [hd] at hx; cases hx
        | cons q l =>
          have hq : ¬ pLt q p := fun h => by
            have h4 := List.head?_dropWhile_not (fun q => decide (cmpP q p < 0)) lo
            rw [hd] at h4
            simp only [List.head?_cons] at h4
            have := (cmpP_lt q p).2 h
            simp [this] at h4
          have hqe := h3 q (hsub q (by rw [hd]; simp))
          have hpq : pLt p q := by
            rcases pLt_tri q p with h4 | ⟨h4, h5⟩ | h4
            · exact absurd h4 hq
            · exact absurd ⟨hqe.1, by rw [← h4, ← h5]; exact hqe.2⟩ hp
            · exact h4
          rw [hd] at hx hsplit
          rcases List.mem_cons.1 hx with rfl | hx
          · exact hpq
          · exact pLt_trans hpq ((List.pairwise_cons.1 hsplit.2.1).1 x hx)
      rw [List.pairwise_append, List.pairwise_cons]
      refine ⟨hsplit.1, ⟨fun y hy => ?_, mrg_srt h1.2 hsplit.2.1 fun q hq => h3 q (hsub q hq)⟩, fun x hx y hy => ?_⟩
      · rcases mem_mrg.1 hy with ⟨h4, _⟩ | h4
        · exact h1.1 y h4
        · exact hgt y h4
      · rcases List.mem_cons.1 hy with rfl | hy
        · exact hlt x hx
        · rcases mem_mrg.1 hy with ⟨h4, _⟩ | h4
          · exact pLt_trans (hlt x hx) (h1.1 y h4)
          · exact pLt_trans (hlt x hx) (hgt y h4)
theorem mrg_shw {em : Bool} {tr lo : List Pc} {T1 T2 : Tm} (h1 : Shw tr T1) (h2 : Shw lo T2) (h3 : ∀ q ∈ lo, em = true ∧ q.src = q.dst) : Shw (mrg em tr lo) (besT em T1 T2) := by
  refine ⟨mrg_srt h1.srt h2.srt h3, fun p => ?_⟩
  rw [mem_mrg, h1.iff]
  unfold besT
  by_cases e : em = true ∧ p.src = p.dst
  · rw [if_pos e, ← h2.iff]
    exact ⟨fun h => h.resolve_left fun h4 => h4.2 e, .inr⟩
  · rw [if_neg e]
    exact ⟨fun h => by rcases h with h | h; exact h.1; exact absurd (h3 _ h) e, fun h => .inl ⟨h, e⟩⟩
theorem mrg_len {em : Bool} : ∀ {tr lo : List Pc}, (mrg em tr lo).length ≤ tr.length + lo.length
  | [], lo => by simp [mrg]
  | p :: ts, lo => by
    rw [mrg]
    split
    · have := mrg_len (em := em) (tr := ts) (lo := lo); simp only [List.length_cons]; omega
    · have := mrg_len (em := em) (tr := ts) (lo := lo.dropWhile fun q => decide (cmpP q p < 0))
      have h2 := congrArg List.length (List.takeWhile_append_dropWhile (p := fun q => decide (cmpP q p < 0)) (l := lo))
      rw [List.length_append] at h2
      rw [List.length_append, List.length_cons, List.length_cons]; omega
/-- what a reach tells -/
noncomputable def rT (em : Bool) (A : Gr) (n : Nn) (vs : List (ByteArray × Int)) : Tm := besT em (tree A n) (loopT vs)
theorem bes_chg {em : Bool} {T1 T1' T2 T2' : Tm} : besT em (chg T1 T1') (chg T2 T2') = chg (besT em T1 T2) (besT em T1' T2') := by
  funext p
  unfold besT chg
  by_cases e : em = true ∧ p.1 = p.2
  · simp only [if_pos e]
  · simp only [if_neg e]
theorem chg_self (T : Tm) : chg T T = fun _ => none := by funext p; unfold chg; rw [if_pos rfl]
/-- the vertices met -/
structure VI (em : Bool) (cut : Int) (K : Nat) (vs : List (ByteArray × Int)) : Prop where
  nd : (vs.map (·.1)).Nodup
  emp : em = false → vs = []
  lat : ∀ p ∈ vs, cut < p.2
  len : vs.length ≤ 2 * K
theorem loop_diag {em : Bool} {cut : Int} {K : Nat} {vs : List (ByteArray × Int)} {l : List Pc} (h : VI em cut K vs) (hl : Shw l (loopT vs)) : ∀ q ∈ l, em = true ∧ q.src = q.dst := fun q hq => by
  have h1 := (hl.iff q).1 hq
  unfold loopT at h1
  split at h1
  · rename_i e
    refine ⟨?_, e⟩
    cases em with
    | true => rfl
    | false => rw [h.emp rfl] at h1; cases h1
  · cases h1
theorem Shw.len {l : List Pc} {T : Tm} {K : List Pq} (h : Shw l T) (hK : ∀ p t, T p = some t → p ∈ K) : l.length ≤ K.length := by
  have := len_sub (l := l.map fun p => (p.src, p.dst)) (m := K) (by
    rw [List.Nodup, List.pairwise_map]
    exact h.srt.imp fun {a b} hab (e : (a.src, a.dst) = (b.src, b.dst)) => by
      obtain ⟨e1, e2⟩ := Prod.mk.inj e
      unfold pLt at hab
      rw [e1, e2] at hab
      exact pLt_irr b hab) fun q hq => by
    obtain ⟨p, hp, rfl⟩ := List.mem_map.1 hq
    exact hK _ _ ((h.iff p).1 hp)
  simpa using this
theorem loop_len {vs : List (ByteArray × Int)} {l : List Pc} {T : Tm} (h : Shw l T) (hT : ∀ p t, T p = some t → loopT vs p = some t) : l.length ≤ vs.length := by
  have := h.len (K := vs.map fun x => (x.1, x.1)) fun p t hp => by
    have h1 := hT p t hp
    unfold loopT at h1
    split at h1
    · rename_i e
      exact List.mem_map.2 ⟨_, glook_mem h1, Prod.ext rfl e⟩
    · cases h1
  simpa using this
theorem tree_len {A : Gr} {E : List Hq} {c : Int} {n : Nn} {l : List Pc} {T : Tm} (h : Shw l T) (hf : ∀ r v s t, nodT n r v s = some t → FinP A E c r v s t) (hE : E.length ≤ 20) (hT : ∀ p t, T p = some t → tree A n p = some t) : l.length ≤ 400 := by
  have h1 := h.len (K := (srcs E).flatMap fun r => (dsts E).map fun v => (r, v)) fun p t hp => by
    obtain ⟨⟨s, τ, -, h2⟩, -⟩ := tree_some.1 (hT p t hp)
    have h3 := hf _ _ _ _ h2
    exact List.mem_flatMap.2 ⟨_, h3.1, List.mem_map.2 ⟨_, h3.2.1, rfl⟩⟩
  have h2 : ((srcs E).flatMap fun r => (dsts E).map fun v => (r, v)).length = (srcs E).length * E.length := by
    induction srcs E with
    | nil => simp
    | cons r l ih => rw [List.flatMap_cons, List.length_append, ih, List.length_map, List.length_cons, Nat.succ_mul]; simp [dsts]; omega
  rw [h2] at h1
  have : (srcs E).length = E.length := by simp [srcs]
  rw [this] at h1
  exact Nat.le_trans h1 (Nat.mul_le_mul hE hE)
theorem chg_sub {T T' : Tm} {p : Pq} {t : Int} (h : chg T T' p = some t) : T' p = some t := (chg_some.1 h).1
/-- a reach between two edges -/
structure RI (em : Bool) (A : Gr) (E : List Hq) (cut last : Int) (lk : Ln) (n : Nn) (vs : List (ByteArray × Int)) : Prop where
  hE : okA A
  hAt : okTg A
  hem : em = takesA A 0
  hcut : -1 ≤ cut
  cl : Cl A E cut last lk n
  vi : VI em cut E.length vs
  htl : tot lk ≤ E.length
theorem VI.meet {em : Bool} {cut t : Int} {K : Nat} {vs vk : List (ByteArray × Int)} {a b : ByteArray} {out : List Pc} (h : VI em cut K vs) (he : em = true) (hM : MtI vs t [a, b] vk out) (hc : cut < t) : VI em cut (K + 1) vk := by
  refine ⟨hM.nd, fun h1 => (by rw [he] at h1; cases h1), fun p hp => ?_, by have := hM.lenv; have := h.len; simp only [List.length_cons, List.length_nil] at *; omega⟩
  have h1 := mem_glook hM.nd (show (p.1, p.2) ∈ vk from hp)
  by_cases hx : p.1 ∈ [a, b]
  · rw [hM.lk1 _ hx] at h1
    have h2 := Option.some.inj h1
    unfold mxT at h2
    split at h2 <;> omega
  · rw [hM.lk0 _ hx] at h1
    exact h.lat _ (glook_mem h1)
theorem VI.next {em : Bool} {cut : Int} {K : Nat} {vs : List (ByteArray × Int)} (h : VI em cut K vs) : VI em cut (K + 1) vs := ⟨h.nd, h.emp, h.lat, by have := h.len; omega⟩
theorem shw_nil (vs : List (ByteArray × Int)) : Shw [] (chg (loopT vs) (loopT vs)) := by
  rw [chg_self]; exact ⟨List.Pairwise.nil, fun p => ⟨fun h => (by cases h), fun h => (by cases h)⟩⟩
/-! ### a cut -/
theorem flt_some {o : Option Int} {c t : Int} : o.filter (fun u => decide (c < u)) = some t ↔ o = some t ∧ c < t := by
  cases o with
  | none => simp
  | some u =>
    by_cases h : c < u
    · simp [Option.filter, h]; rintro rfl; exact h
    · simp [Option.filter, h]; rintro rfl; omega
theorem Cl.cut {A : Gr} {E : List Hq} {c c' last : Int} {lk lk' : Ln} {n n' : Nn} (h : Cl A E c last lk n) (hn : okN2 n') (hl : okN2 lk') (hcc : c ≤ c') (h1 : ∀ q q', look2 n' q q' = (look2 n q q').filter (fun u => decide (c' < u))) (h2 : ∀ q q', look2 lk' q q' = (look2 lk q q').filter (fun u => decide (c' < u))) : Cl A E c' last lk' n' := by
  have hN : ∀ r v s t, nodT n' r v s = some t ↔ nodT n r v s = some t ∧ c' < t := fun r v s t => by unfold nodT; rw [h1, flt_some]
  have hL : ∀ v to lab t, lnkT lk' v to lab = some t ↔ lnkT lk v to lab = some t ∧ c' < t := fun v to lab t => by unfold lnkT; rw [h2, flt_some]
  have hD : ∀ {r v s t}, Dv A lk r v s t → c' < t → Dv A lk' r v s t := by
    intro r v s t d
    induction d with
    | base a b => exact fun h => .base ((hL _ _ _ _).2 ⟨a, h⟩) b
    | step d a b ih => exact fun h => .step (ih (by omega)) ((hL _ _ _ _).2 ⟨a, by omega⟩) b
  refine ⟨hn, hl, fun v to lab u hu => ?_, fun r v s t ht => ?_, fun r v s t ht => ?_, fun r to lab u s a b => ?_, fun r v s t to lab u s' a b d => ?_, h.lst⟩
  · obtain ⟨h3, h4⟩ := (hL _ _ _ _).1 hu
    exact ⟨(h.lnk _ _ _ _ h3).1, h4⟩
  · obtain ⟨h3, h4⟩ := (hN _ _ _ _).1 ht
    have h5 := h.fin _ _ _ _ h3
    exact ⟨h5.1, h5.2.1, h5.2.2.1, h5.2.2.2.1, h4⟩
  · obtain ⟨h3, h4⟩ := (hN _ _ _ _).1 ht
    obtain ⟨t', h5, h6⟩ := h.snd _ _ _ _ h3
    exact ⟨t', h5, hD h6 (by omega)⟩
  · obtain ⟨h3, h4⟩ := (hL _ _ _ _).1 a
    obtain ⟨t', h5, h6⟩ := h.cl0 _ _ _ _ _ h3 b
    exact ⟨t', (hN _ _ _ _).2 ⟨h5, by omega⟩, h6⟩
  · obtain ⟨h3, h4⟩ := (hL _ _ _ _).1 b
    obtain ⟨h5, h6⟩ := (hN _ _ _ _).1 a
    obtain ⟨t', h7, h8⟩ := h.cl _ _ _ _ _ _ _ _ h5 h3 d
    exact ⟨t', (hN _ _ _ _).2 ⟨h7, by omega⟩, h8⟩
theorem tree_cut {A : Gr} {E : List Hq} {c t : Int} {n n' : Nn} (hc : -1 ≤ c) (hf : ∀ r v s t, nodT n r v s = some t → FinP A E c r v s t) (h1 : ∀ q q', look2 n' q q' = (look2 n q q').filter (fun u => decide (max c t < u))) (p : Pq) (τ : Int) : tree A n' p = some τ ↔ tree A n p = some τ ∧ t < τ := by
  have hN : ∀ r v s u, nodT n' r v s = some u ↔ nodT n r v s = some u ∧ max c t < u := fun r v s u => by unfold nodT; rw [h1, flt_some]
  have hf' : ∀ r v s u, nodT n' r v s = some u → FinP A E c r v s u := fun r v s u hu => hf _ _ _ _ ((hN _ _ _ _).1 hu).1
  have key : held A n' p → timeF A n' p.1 p.2 = timeF A n p.1 p.2 := fun hh => by
    obtain ⟨s, h2, h3⟩ := held_time hf' hc hh
    obtain ⟨h4, h5⟩ := (hN _ _ _ _).1 h3
    have h6 := timeF_ge (hf _ _ _ _ h4).2.2.1 h2 h4
    obtain ⟨s', h7, h8⟩ := held_time hf hc ⟨s, _, h2, h4⟩
    have h9 := (hN p.1 p.2 s' _).2 ⟨h8, by omega⟩
    have h10 := timeF_ge (hf _ _ _ _ h8).2.2.1 h7 h9
    omega
  rw [tree_some, tree_some]
  constructor
  · rintro ⟨h2, rfl⟩
    have e := key h2
    obtain ⟨s, h3, h4⟩ := held_time hf' hc h2
    obtain ⟨h5, h6⟩ := (hN _ _ _ _).1 h4
    exact ⟨⟨⟨s, _, h3, h5⟩, e⟩, by omega⟩
  · rintro ⟨⟨h2, rfl⟩, h3⟩
    obtain ⟨s, h4, h5⟩ := held_time hf hc h2
    have h6 := (hf _ _ _ _ h5).2.2.2.2
    have hh : held A n' p := ⟨s, _, h4, (hN _ _ _ _).2 ⟨h5, by omega⟩⟩
    exact ⟨hh, (key hh).symm⟩
theorem loop_cut {vs vs' : List (ByteArray × Int)} {t : Int} (hn : (vs.map (·.1)).Nodup) (hn' : (vs'.map (·.1)).Nodup) (h : ∀ x, x ∈ vs' ↔ x ∈ vs ∧ decide (x.2 ≤ t) = false) (p : Pq) (τ : Int) : loopT vs' p = some τ ↔ loopT vs p = some τ ∧ t < τ := by
  unfold loopT
  split
  · rw [glook_iff hn', glook_iff hn, h]
    simp
  · simp
theorem rT_cut {em : Bool} {A : Gr} {n n' : Nn} {vs vs' : List (ByteArray × Int)} {t : Int} (h1 : ∀ p τ, tree A n' p = some τ ↔ tree A n p = some τ ∧ t < τ) (h2 : ∀ p τ, loopT vs' p = some τ ↔ loopT vs p = some τ ∧ t < τ) (p : Pq) (τ : Int) : rT em A n' vs' p = some τ ↔ rT em A n vs p = some τ ∧ t < τ := by
  unfold rT besT
  split
  · exact h2 p τ
  · exact h1 p τ
theorem VI.cut {em : Bool} {c t : Int} {K : Nat} {vs vs' : List (ByteArray × Int)} (h : VI em c K vs) (hn' : (vs'.map (·.1)).Nodup) (hm : ∀ x, x ∈ vs' ↔ x ∈ vs ∧ decide (x.2 ≤ t) = false) : VI em (max c t) K vs' := by
  refine ⟨hn', fun he => ?_, fun p hp => ?_, ?_⟩
  · cases vs' with
    | nil => rfl
    | cons x l => have := ((hm x).1 List.mem_cons_self).1; rw [h.emp he] at this; cases this
  · obtain ⟨h1, h2⟩ := (hm p).1 hp
    have := h.lat p h1
    have := of_decide_eq_false h2
    omega
  · have := nd_len (K := vs) hn' fun x hx => ((hm x).1 hx).1
    have := h.len
    omega
theorem RI.new {A : Gr} (hE : okA A) (hAt : okTg A) : RI (takesA A 0) A [] (-1) (-1) [] [] [] :=
  ⟨hE, hAt, rfl, Int.le_refl _, ⟨okN2.nil, okN2.nil, fun _ _ _ _ h => (by cases h), fun _ _ _ _ h => (by cases h), fun _ _ _ _ h => (by cases h), fun _ _ _ _ _ h => (by cases h), fun _ _ _ _ _ _ _ _ h => (by cases h), fun _ h => (by cases h)⟩, ⟨List.nodup_nil, fun _ => rfl, fun _ h => (by cases h), Nat.le_refl _⟩, Nat.le_refl _⟩
theorem c12 {s : Sy} [NoEx s] {L : List Hp} {g : KE.Sub} {ro mv f a mn ml : Nat} {n : Nn} {lk : Ln} {cut last : Int} {A : Gr} {em : Bool} {vs : List (ByteArray × Int)} {E : List Hq} {e : Ed} {xs : List Pr} {X : Hp} (w : World) (hR : RI em A E cut last lk n vs) (hA : AuG g a A) (hEd : E.length ≤ 19) (hpv : oneC e.pv = true) (hX : ∀ w1 L1, Hd s w1 (X :: L1) → RdS w1 e.pv 4 prC xs) (hsz : ∀ p ∈ xs, p.key.size ≤ 140737488355328 ∧ p.text.size ≤ 140737488355328) (H : Hd s w (pt ro (.cells #[.map (some mv), .pointer (some ⟨a, 0, none⟩), .pointer (some ⟨f, 0, none⟩)] 81 (0, 0)) :: Mp TS mv (vs.map (gval I)) :: pt f (.cells (foC a mn ml cut last).toArray 143 (0, 0)) :: Mp TSp mn (n.map (gval pI)) :: IM TS I n :: Mp TS ml (lk.map (gval pI)) :: IM TLk I lk :: fz g :: X :: L)) : CC Tryz.prog 12 [.pointer (some ⟨ro, 0, none⟩), .agg (edC e).toArray].toArray w (fun r w' => ∃ (v : Value) (er : Int), r = .tuple #[v, I er] ∧ ((er ≠ 0 ∧ v = .slice none 0 0 ∧ (chk e.src e.dst e.lab e.time xs ≠ 0 ∨ ¬ (last ≤ e.time ∧ cut < e.time)) ∧ Hd s w' (pt ro (.cells #[.map (some mv), .pointer (some ⟨a, 0, none⟩), .pointer (some ⟨f, 0, none⟩)] 81 (0, 0)) :: Mp TS mv (vs.map (gval I)) :: pt f (.cells (foC a mn ml cut last).toArray 143 (0, 0)) :: Mp TSp mn (n.map (gval pI)) :: IM TS I n :: Mp TS ml (lk.map (gval pI)) :: IM TLk I lk :: fz g :: X :: L)) ∨ (er = 0 ∧ ∃ (n' : Nn) (lk' : Ln) (vs' : List (ByteArray × Int)) (l : List Pc), last ≤ e.time ∧ cut < e.time ∧ chk e.src e.dst e.lab e.time xs = 0 ∧ RI em A (hq e :: E) cut e.time lk' n' vs' ∧ (∀ v to lab, lnkT lk' v to lab = if (v, to, lab) = (e.src, e.dst, e.lab) then some e.time else lnkT lk v to lab) ∧ (em = true → ∃ out, MtI vs e.time [e.src, e.dst] vs' out) ∧ (em = false → vs' = vs) ∧ Shw l (chg (rT em A n vs) (rT em A n' vs')) ∧ Hd s w' (Sl v 43 3 l.length (l.flatMap pcC) :: pt ro (.cells #[.map (some mv), .pointer (some ⟨a, 0, none⟩), .pointer (some ⟨f, 0, none⟩)] 81 (0, 0)) :: Mp TS mv (vs'.map (gval I)) :: pt f (.cells (foC a mn ml cut e.time).toArray 143 (0, 0)) :: Mp TSp mn (n'.map (gval pI)) :: IM TS I n' :: Mp TS ml (lk'.map (gval pI)) :: IM TLk I lk' :: fz g :: X :: L)))) := by
  refine CC.of (N := 43) Tryz.func12 rfl rfl rfl ?_
  refine WC.seq ?_
  refine WC.region ?_
  refine l_st rfl (s_box (by conv => lhs; whnf) H fun b3 w H => ?_)
  refine l_rd rfl rfl (x_assign ev_c) ?_
  refine l_rd rfl rfl (x_assign ev_c) ?_
  refine WL.nil ?_
  refine WC.seq ?_
  refine WC.seq ?_
  refine WC.region ?_
  refine l_rd rfl rfl (x_move (by conv => lhs; whnf)) ?_
  refine l_st rfl (s_callL cal33 (c33 _ (H.obj 1 rfl)) ?_)
  rintro _ w ⟨rfl, e1⟩
  have H := H.ext e1
  refine l_rd rfl rfl (x_not rfl) ?_
  refine WL.nil ?_
  refine WC.cond0 rfl ?_
  refine WC.skip ?_
  refine WC.seq ?_
  refine WC.draw mixed [5] [[], [0], [0, 1], [0, 1, 2], [], [0, 1, 2, 3, 4], [0, 1, 2, 3, 4, 5], [0, 1, 2, 3, 4, 5, 6], [0, 1, 2, 3, 4, 5, 6], [0, 1, 2, 3, 4, 5, 6, 7], [0, 1, 2, 3, 4, 5, 6, 7, 8, 9]] [0, 1, 2, 3, 4, 5, 6, 7, 8, 9, 10] (by kernel_rfl) ?_
  have H := H.drew
  refine k_rd rfl rfl (RS.of rfl rfl (x_move (by conv => lhs; whnf))) ?_
  refine k_rd rfl rfl (RS.of rfl rfl (x_nilCheck rfl)) ?_
  refine k_rd rfl rfl (RS.of rfl rfl (x_fieldAddr (k := 2) Tryz.underlying81 rfl rfl ty74 (by decide) rfl)) ?_
  refine k_rd rfl rfl (RS.of rfl rfl (x_load Tryz.underlying74 rfl rfl (H.cellL 1 rfl rfl))) ?_
  refine k_rd rfl rfl (RS.of rfl rfl (x_loadF (vs := [_, _, _, _, _]) Tryz.underlying35 rfl ty35 rfl rfl (H.cellsL 0 rfl rfl))) ?_
  refine k_st rfl rfl rfl (s_callL cal36 (c36 (E := E) _ hR.hE hR.hAt hA hR.hcut hR.cl hEd (by have := hR.htl; omega) hpv hX hsz (Hd.arrT [_, _, _, _, _, _, _, _, _, _] [3, 4, 5, 6, 7, 8, 9, 0, 1, 2] (by decide) rfl H)) ?_)
  rintro _ w ⟨v6, er, rfl, ⟨her, rfl, hwhy, H⟩ | ⟨rfl, n2, lk2, l2, h1, h2, h3, hCl2, hlk2, hto2, hsh, H⟩⟩
  ·
    refine ⟨⟨trivial, ⟨trivial, ⟨trivial, ⟨trivial, ⟨trivial, trivial⟩⟩⟩⟩⟩, ?_⟩
    refine k_rd rfl rfl (RS.of rfl rfl (x_move (by conv => lhs; whnf))) ?_
    refine k_rd rfl rfl (RS.of rfl rfl (x_extract rfl rfl)) ?_
    refine k_rd rfl rfl (RS.of rfl rfl (x_extract rfl rfl)) ?_
    refine k_rd rfl rfl (RS.of rfl rfl (x_assign (by conv => lhs; whnf))) ?_
    refine k_rd rfl rfl (RS.of rfl rfl (x_assign (by conv => lhs; whnf))) ?_
    show _
    refine WC.seq ?_
    refine WC.seq ?_
    refine WC.region ?_
    refine l_rd rfl rfl (x_move (by conv => lhs; whnf)) ?_
    refine l_rdD rfl rfl (x_neq rfl rfl) (fun h22 => ?_) (fun h22 => ?_)
    ·
      refine WL.nil ?_
      refine WC.cond1 rfl ?_
      refine WC.seq ?_
      refine WC.region ?_
      refine l_rd rfl rfl (x_move (by conv => lhs; whnf)) ?_
      refine l_rd rfl rfl (x_assign ev_c) ?_
      refine l_rd rfl rfl (x_assign (by conv => lhs; whnf)) ?_
      refine WL.nil ?_
      refine WC.ret ?_
      refine atRet ?_
      exact RetM.two rfl (by (conv => lhs; whnf); try rfl) (by (conv => lhs; whnf); try rfl) (⟨_, _, rfl, .inl ⟨her, rfl, hwhy, Hd.arrT [_, _, _, _, _, _, _, _, _, _] [8, 9, 0, 1, 2, 3, 4, 5, 6] (by decide) rfl H⟩⟩)
    ·
      exact absurd her h22
  ·
    refine ⟨⟨trivial, ⟨trivial, ⟨trivial, ⟨trivial, ⟨trivial, trivial⟩⟩⟩⟩⟩, ?_⟩
    refine k_rd rfl rfl (RS.of rfl rfl (x_move (by conv => lhs; whnf))) ?_
    refine k_rd rfl rfl (RS.of rfl rfl (x_extract rfl rfl)) ?_
    refine k_rd rfl rfl (RS.of rfl rfl (x_extract rfl rfl)) ?_
    refine k_rd rfl rfl (RS.of rfl rfl (x_assign (by conv => lhs; whnf))) ?_
    refine k_rd rfl rfl (RS.of rfl rfl (x_assign (by conv => lhs; whnf))) ?_
    show _
    refine WC.seq ?_
    refine WC.seq ?_
    refine WC.region ?_
    refine l_rd rfl rfl (x_move (by conv => lhs; whnf)) ?_
    refine l_rdD rfl rfl (x_neq rfl rfl) (fun h22 => ?_) (fun h22 => ?_)
    ·
      exact absurd rfl h22
    ·
      refine WL.nil ?_
      refine WC.cond0 rfl ?_
      refine WC.skip ?_
      refine WC.seq ?_
      refine WC.region ?_
      refine l_rd rfl rfl (x_assign ev_c) ?_
      refine WL.nil ?_
      refine WC.seq ?_
      refine WC.seq ?_
      obtain ⟨e9, he9⟩ : ∃ e9, e9 = em := ⟨_, rfl⟩
      cases e9
      ·
        refine WC.region ?_
        refine l_rd rfl rfl (x_move (by conv => lhs; whnf)) ?_
        refine l_st rfl (s_callL cal37 (c37 _ (H.obj 9 rfl) (hA.rd (H.fz 6 rfl)) hR.hE.1) ?_)
        rintro r w ⟨hr1, e1⟩
        have H := H.ext e1
        obtain rfl : r = .bool false := hr1.trans (by rw [← hR.hem, ← he9])
        refine WL.nil ?_
        refine WC.cond0 rfl ?_
        refine WC.skip ?_
        refine WC.seq ?_
        have H := Hd.nil H 43 3
        have hRI : RI em A (hq e :: E) cut e.time lk2 n2 vs := ⟨hR.hE, hR.hAt, hR.hem, hR.hcut, hCl2, hR.vi.next, by rw [List.length_cons]; have := hR.htl; omega⟩
        have hdg : ∀ q ∈ ([] : List Pc), em = true ∧ q.src = q.dst := fun q hq => by cases hq
        have hsl := shw_nil vs
        have hll : ([] : List Pc).length ≤ 1000 := by decide
        have htr : l2.length ≤ 400 := tree_len hsh hCl2.fin (by rw [List.length_cons]; omega) (fun p t h => chg_sub h)
        obtain ⟨a6, c6, rfl⟩ := (H.sl 1 rfl).shape
        refine WC.region ?_
        refine l_rd rfl rfl (x_move (by conv => lhs; whnf)) ?_
        refine l_rd rfl rfl (x_move (by conv => lhs; whnf)) ?_
        refine l_rd rfl rfl (x_move (by conv => lhs; whnf)) ?_
        refine l_st rfl (s_callL cal40 (c40 _ H) ?_)
        rintro _ w ⟨k3, k4, k5, rfl, H⟩
        refine l_st rfl (s_callL cal39 (c39 _ cal88 (it88 (b3 := k3) (b4 := k4) (b5 := k5) (ro := ro) (mv := mv) (f := f) (tr := l2) (lo := ([] : List Pc)) hR.hE hA hR.hem) (fun pre x h => by have := h.len; have := mrg_len (em := em) (tr := l2) (lo := ([] : List Pc)); omega) (Hd.sep (A := [pt k4 (.cells #[.slice a6 l2.length c6] 38 (0, 0)), Sl (.slice a6 l2.length c6) 43 3 l2.length (l2.flatMap pcC), pt k3 (.cells #[.pointer (some ⟨ro, 0, none⟩)] 29 (0, 0)), pt k5 (.cells #[.slice none 0 0] 38 (0, 0)), Sl (.slice none 0 0) 43 3 ([] : List Pc).length (([] : List Pc).flatMap pcC), pt ro (.cells #[.map (some mv), .pointer (some ⟨a, 0, none⟩), .pointer (some ⟨f, 0, none⟩)] 81 (0, 0)), fz g]) (Hd.arrT [_, _, _, _, _, _, _, _, _, _, _, _, _, _, _] [0, 4, 1, 2, 3, 13, 10, 5, 6, 7, 8, 9, 11, 12, 14] (by decide) rfl H))) ?_)
        rintro v42 w ⟨xs, hfx, H⟩
        have H := Hd.unsep (A := [pt ro (.cells #[.map (some mv), .pointer (some ⟨a, 0, none⟩), .pointer (some ⟨f, 0, none⟩)] 81 (0, 0)), fz g]) (Hd.swp H)
        have hfx : xs = _ := hfx
        subst hfx
        refine l_rd rfl rfl (x_assign (by conv => lhs; whnf)) ?_
        refine l_rd rfl rfl (x_assign ev_c) ?_
        refine WL.nil ?_
        refine WC.ret ?_
        refine atRet ?_
        exact RetM.two rfl (by (conv => lhs; whnf); try rfl) (by (conv => lhs; whnf); try rfl) (⟨_, _, rfl, .inr ⟨rfl, n2, lk2, _, _, h1, h2, h3, hRI, hlk2, fun h => (by rw [h] at he9; cases he9), fun _ => rfl, by have h9 := mrg_shw hsh hsl hdg; rw [bes_chg] at h9; exact h9, Hd.arrT [_, _, _, _, _, _, _, _, _, _, _] [2, 0, 10, 3, 4, 5, 6, 7, 1, 8] (by decide) rfl H⟩⟩)
      ·
        refine WC.region ?_
        refine l_rd rfl rfl (x_move (by conv => lhs; whnf)) ?_
        refine l_st rfl (s_callL cal37 (c37 _ (H.obj 9 rfl) (hA.rd (H.fz 6 rfl)) hR.hE.1) ?_)
        rintro r w ⟨hr1, e1⟩
        have H := H.ext e1
        obtain rfl : r = .bool true := hr1.trans (by rw [← hR.hem, ← he9])
        refine WL.nil ?_
        refine WC.cond1 rfl ?_
        refine WC.draw mixed [10, 11] [[], [0], [0, 1], [0, 1, 2], [], [4], [], [6], [], [8], [6, 7, 8, 9], [0, 1, 2, 3, 4, 5, 6, 7, 8, 9, 10], [0, 1, 2, 3, 4, 5, 6, 7, 8, 9, 10, 11]] [0, 1, 2, 3, 4, 5, 6, 7, 8, 9, 10, 11, 12] (by kernel_rfl) ?_
        have H := H.drew
        refine k_rd rfl rfl (RS.of rfl rfl (x_move (by conv => lhs; whnf))) ?_
        refine k_rd rfl rfl (RS.of rfl rfl (x_nilCheck rfl)) ?_
        refine k_rd rfl rfl (RS.of rfl rfl (x_fieldAddr (k := 0) Tryz.underlying81 rfl rfl ty79 (by decide) rfl)) ?_
        refine k_rd rfl rfl (RS.of rfl rfl (x_loadF (vs := [_]) Tryz.underlying79 rfl ty79 rfl rfl (H.cellsL 9 rfl rfl))) ?_
        refine k_rd rfl rfl (RS.of rfl rfl (x_fieldAddr (k := 3) Tryz.underlying35 rfl rfl ty3 (by decide) rfl)) ?_
        refine k_rd rfl rfl (RS.of rfl rfl (x_load Tryz.underlying3 rfl rfl (H.cellL 8 rfl rfl))) ?_
        refine k_rd rfl rfl (RS.of rfl rfl (x_fieldAddr (k := 0) Tryz.underlying35 rfl rfl ty9 (by decide) rfl)) ?_
        refine k_rd rfl rfl (RS.of rfl rfl (x_load Tryz.underlying9 rfl rfl (H.cellL 8 rfl rfl))) ?_
        refine k_rd rfl rfl (RS.of rfl rfl (x_fieldAddr (k := 1) Tryz.underlying35 rfl rfl ty9 (by decide) rfl)) ?_
        refine k_rd rfl rfl (RS.of rfl rfl (x_load Tryz.underlying9 rfl rfl (H.cellL 8 rfl rfl))) ?_
        refine k_st rfl rfl rfl (s_buildN (xs := [.tmp 33, .tmp 35]) (vs := [S e.src, S e.dst]) Tryz.underlying103 ty9 rfl rfl rfl rfl (by decide) (by decide) (by simp [Value.oneCell']) H fun b36 w H => ⟨⟨trivial, ⟨trivial, ⟨trivial, ⟨trivial, ⟨RS.of rfl rfl (x_load Tryz.underlying3 rfl rfl (H.cellL 9 rfl rfl)), ⟨RS.of rfl rfl (x_fieldAddr (k := 3) Tryz.underlying35 rfl rfl ty3 (by decide) rfl), ⟨RS.of rfl rfl (x_loadF (vs := [_]) Tryz.underlying79 rfl ty79 rfl rfl (H.cellsL 10 rfl rfl)), ⟨RS.of rfl rfl (x_fieldAddr (k := 0) Tryz.underlying81 rfl rfl ty79 (by decide) rfl), ⟨RS.of rfl rfl (x_nilCheck rfl), ⟨RS.of rfl rfl (x_move (by (conv => lhs; whnf); try rfl)), trivial⟩⟩⟩⟩⟩⟩⟩⟩⟩⟩, ?_⟩)
        refine k_st rfl rfl rfl (s_callL cal38 (c38 (vs := vs) (nm := [e.src, e.dst]) _ hR.vi.nd (by simp) (Hd.arrT [_, _, _, _, _, _, _, _, _, _, _, _] [11, 0, 1, 2, 3, 4, 5, 6, 7, 8, 9, 10] (by decide) rfl H)) ?_)
        rintro v37 w ⟨vk, out, lo, hM, hsl, H⟩
        refine ⟨⟨trivial, ⟨trivial, ⟨trivial, ⟨trivial, ⟨trivial, ⟨trivial, ⟨trivial, ⟨trivial, ⟨trivial, ⟨trivial, trivial⟩⟩⟩⟩⟩⟩⟩⟩⟩⟩, ?_⟩
        refine k_rd rfl rfl (RS.of rfl rfl (x_assign (by conv => lhs; whnf))) ?_
        show _
        refine WC.seq ?_
        have hRI : RI em A (hq e :: E) cut e.time lk2 n2 vk := ⟨hR.hE, hR.hAt, hR.hem, hR.hcut, hCl2, hR.vi.meet he9.symm hM h2, by rw [List.length_cons]; have := hR.htl; omega⟩
        have hdg : ∀ q ∈ lo, em = true ∧ q.src = q.dst := fun q hq => by
            have h9 := chg_sub ((hsl.iff q).1 hq)
            unfold loopT at h9
            split at h9
            · rename_i e8; exact ⟨he9.symm, e8⟩
            · cases h9
        have hll : lo.length ≤ 1000 := by
          have h9 := loop_len hsl (fun p t h => chg_sub h)
          have h8 := hM.lenv
          have h7 := hR.vi.len
          simp only [List.length_cons, List.length_nil] at h8; omega
        obtain ⟨a8, c8, rfl⟩ := (H.sl 0 rfl).shape
        have htr : l2.length ≤ 400 := tree_len hsh hCl2.fin (by rw [List.length_cons]; omega) (fun p t h => chg_sub h)
        obtain ⟨a6, c6, rfl⟩ := (H.sl 2 rfl).shape
        refine WC.region ?_
        refine l_rd rfl rfl (x_move (by conv => lhs; whnf)) ?_
        refine l_rd rfl rfl (x_move (by conv => lhs; whnf)) ?_
        refine l_rd rfl rfl (x_move (by conv => lhs; whnf)) ?_
        refine l_st rfl (s_callL cal40 (c40 _ H) ?_)
        rintro _ w ⟨k3, k4, k5, rfl, H⟩
        refine l_st rfl (s_callL cal39 (c39 _ cal88 (it88 (b3 := k3) (b4 := k4) (b5 := k5) (ro := ro) (mv := mv) (f := f) (tr := l2) (lo := lo) hR.hE hA hR.hem) (fun pre x h => by have := h.len; have := mrg_len (em := em) (tr := l2) (lo := lo); omega) (Hd.sep (A := [pt k4 (.cells #[.slice a6 l2.length c6] 38 (0, 0)), Sl (.slice a6 l2.length c6) 43 3 l2.length (l2.flatMap pcC), pt k3 (.cells #[.pointer (some ⟨ro, 0, none⟩)] 29 (0, 0)), pt k5 (.cells #[.slice a8 lo.length c8] 38 (0, 0)), Sl (.slice a8 lo.length c8) 43 3 lo.length (lo.flatMap pcC), pt ro (.cells #[.map (some mv), .pointer (some ⟨a, 0, none⟩), .pointer (some ⟨f, 0, none⟩)] 81 (0, 0)), fz g]) (Hd.arrT [_, _, _, _, _, _, _, _, _, _, _, _, _, _, _] [0, 5, 1, 2, 3, 14, 11, 4, 6, 7, 8, 9, 10, 12, 13] (by decide) rfl H))) ?_)
        rintro v42 w ⟨xs, hfx, H⟩
        have H := Hd.unsep (A := [pt ro (.cells #[.map (some mv), .pointer (some ⟨a, 0, none⟩), .pointer (some ⟨f, 0, none⟩)] 81 (0, 0)), fz g]) (Hd.swp H)
        have hfx : xs = _ := hfx
        subst hfx
        refine l_rd rfl rfl (x_assign (by conv => lhs; whnf)) ?_
        refine l_rd rfl rfl (x_assign ev_c) ?_
        refine WL.nil ?_
        refine WC.ret ?_
        refine atRet ?_
        exact RetM.two rfl (by (conv => lhs; whnf); try rfl) (by (conv => lhs; whnf); try rfl) (⟨_, _, rfl, .inr ⟨rfl, n2, lk2, _, _, h1, h2, h3, hRI, hlk2, fun _ => ⟨out, hM⟩, fun h => (by rw [h] at he9; cases he9), by have h9 := mrg_shw hsh hsl hdg; rw [bes_chg] at h9; exact h9, Hd.arrT [_, _, _, _, _, _, _, _, _, _, _] [2, 0, 3, 4, 5, 6, 7, 8, 1, 9] (by decide) rfl H⟩⟩)
theorem c11 {s : Sy} [NoEx s] {L : List Hp} {g : KE.Sub} {ro mv f a mn ml : Nat} {n : Nn} {lk : Ln} {cut last : Int} {A : Gr} {em : Bool} {vs : List (ByteArray × Int)} {E : List Hq} {t : Int} (w : World) (hR : RI em A E cut last lk n vs) (hA : AuG g a A) (hEd : E.length ≤ 20) (H : Hd s w (pt ro (.cells #[.map (some mv), .pointer (some ⟨a, 0, none⟩), .pointer (some ⟨f, 0, none⟩)] 81 (0, 0)) :: Mp TS mv (vs.map (gval I)) :: pt f (.cells (foC a mn ml cut last).toArray 143 (0, 0)) :: Mp TSp mn (n.map (gval pI)) :: IM TS I n :: Mp TS ml (lk.map (gval pI)) :: IM TLk I lk :: fz g :: L)) : CC Tryz.prog 11 [.pointer (some ⟨ro, 0, none⟩), I t].toArray w (fun r w' => ∃ (n' : Nn) (lk' : Ln) (vs' : List (ByteArray × Int)), RI em A E (max cut t) last lk' n' vs' ∧ (∀ p τ, rT em A n' vs' p = some τ ↔ rT em A n vs p = some τ ∧ t < τ) ∧ Hd s w' (pt ro (.cells #[.map (some mv), .pointer (some ⟨a, 0, none⟩), .pointer (some ⟨f, 0, none⟩)] 81 (0, 0)) :: Mp TS mv (vs'.map (gval I)) :: pt f (.cells (foC a mn ml (max cut t) last).toArray 143 (0, 0)) :: Mp TSp mn (n'.map (gval pI)) :: IM TS I n' :: Mp TS ml (lk'.map (gval pI)) :: IM TLk I lk' :: fz g :: L)) := by
  refine CC.of (N := 18) Tryz.func11 rfl rfl rfl ?_
  refine WC.seq ?_
  refine WC.region ?_
  refine l_rd rfl rfl (x_move (by conv => lhs; whnf)) ?_
  refine l_st rfl (s_callL cal33 (c33 _ (H.obj 0 rfl)) ?_)
  rintro _ w ⟨rfl, e1⟩
  have H := H.ext e1
  refine WL.nil ?_
  refine WC.cond1 rfl ?_
  refine WC.seq ?_
  refine WC.region ?_
  refine l_rd rfl rfl (x_move (by conv => lhs; whnf)) ?_
  refine l_rd rfl rfl (x_nilCheck rfl) ?_
  refine l_rd rfl rfl (x_fieldAddr (k := 2) Tryz.underlying81 rfl rfl ty74 (by decide) rfl) ?_
  refine l_rd rfl rfl (x_load Tryz.underlying74 rfl rfl (H.cellL 0 rfl rfl)) ?_
  refine l_rd rfl rfl (x_move (by conv => lhs; whnf)) ?_
  refine l_st rfl (s_callL cal34 (c34 _ hA hR.cl.okn hR.cl.okl (by have h9 := tot_le hR.cl.okn hR.cl.fin; have h8 : E.length * (E.length * (A.rows.length * E.length)) ≤ 20 * (20 * (256 * 20)) := Nat.mul_le_mul hEd (Nat.mul_le_mul hEd (Nat.mul_le_mul hR.hE.2.2 hEd)); exact Nat.le_trans h9 (Nat.le_trans h8 (by decide))) (by have := hR.htl; omega) (Hd.arrT [_, _, _, _, _, _, _, _] [2, 3, 4, 5, 6, 7, 0, 1] (by decide) rfl H)) ?_)
  rintro _ w ⟨n2, lk2, k9, rfl, hn2, hl2, hq1, hq2, htn, htl, H⟩
  refine WL.nil ?_
  refine WC.region ?_
  refine l_rd rfl rfl (x_move (by conv => lhs; whnf)) ?_
  refine l_rd rfl rfl (x_nilCheck rfl) ?_
  refine l_rd rfl rfl (x_fieldAddr (k := 0) Tryz.underlying81 rfl rfl ty79 (by decide) rfl) ?_
  refine l_rd rfl rfl (x_loadF (vs := [_]) Tryz.underlying79 rfl ty79 rfl rfl (H.cellsL 6 rfl rfl)) ?_
  refine l_rd rfl rfl (x_move (by conv => lhs; whnf)) ?_
  refine l_st rfl (s_callL cal35 (c35 _ hR.vi.nd (Hd.arrT [_, _, _, _, _, _, _, _] [7, 0, 1, 2, 3, 4, 5, 6] (by decide) rfl H)) ?_)
  rintro _ w ⟨vs2, hnv, hmv, H⟩
  refine WL.nil ?_
  refine atEnd ?_
  exact RetM.none' rfl ⟨n2, lk2, vs2, ⟨hR.hE, hR.hAt, hR.hem, by have := hR.hcut; omega, hR.cl.cut hn2 hl2 (by omega) hq1 hq2, hR.vi.cut hnv hmv, by have := hR.htl; omega⟩, rT_cut (tree_cut hR.hcut hR.cl.fin hq1) (loop_cut hR.vi.nd hnv hmv), Hd.arrT [_, _, _, _, _, _, _, _] [7, 0, 1, 2, 3, 4, 5, 6] (by decide) rfl H⟩
theorem c32 {s : Sy} [NoEx s] {L : List Hp} {g : KE.Sub} {ro mv f a mn ml : Nat} {n : Nn} {lk : Ln} {cut last : Int} {A : Gr} {em : Bool} {vs : List (ByteArray × Int)} {E : List Hq} (w : World) (hR : RI em A E cut last lk n vs) (hA : AuG g a A) (hEd : E.length ≤ 20) (H : Hd s w (pt ro (.cells #[.map (some mv), .pointer (some ⟨a, 0, none⟩), .pointer (some ⟨f, 0, none⟩)] 81 (0, 0)) :: Mp TS mv (vs.map (gval I)) :: pt f (.cells (foC a mn ml cut last).toArray 143 (0, 0)) :: Mp TSp mn (n.map (gval pI)) :: IM TS I n :: Mp TS ml (lk.map (gval pI)) :: IM TLk I lk :: fz g :: L)) : CC Tryz.prog 32 [.pointer (some ⟨ro, 0, none⟩)].toArray w (fun r w' => ∃ (k3 k4 k5 : Nat) (tv lv : Value) (tr lo : List Pc), r = .func (.func 88) #[] #[.pointer (some ⟨k4, 0, none⟩), .pointer (some ⟨k3, 0, none⟩), .pointer (some ⟨k5, 0, none⟩)] ∧ Shw (mrg em tr lo) (rT em A n vs) ∧ (mrg em tr lo).length ≤ 2000 ∧ Hd s w' (KE.sep [pt k4 (.cells #[tv] 38 (0, 0)), Sl (tv) 43 3 tr.length (tr.flatMap pcC), pt k3 (.cells #[.pointer (some ⟨ro, 0, none⟩)] 29 (0, 0)), pt k5 (.cells #[lv] 38 (0, 0)), Sl (lv) 43 3 lo.length (lo.flatMap pcC), pt ro (.cells #[.map (some mv), .pointer (some ⟨a, 0, none⟩), .pointer (some ⟨f, 0, none⟩)] 81 (0, 0)), fz g] :: Mp TS mv (vs.map (gval I)) :: pt f (.cells (foC a mn ml cut last).toArray 143 (0, 0)) :: Mp TSp mn (n.map (gval pI)) :: IM TS I n :: Mp TS ml (lk.map (gval pI)) :: IM TLk I lk :: L)) := by
  refine CC.of (N := 19) Tryz.func32 rfl rfl rfl ?_
  refine WC.seq ?_
  refine WC.region ?_
  refine l_rd rfl rfl (x_assign ev_c) ?_
  refine WL.nil ?_
  refine WC.seq ?_
  refine WC.seq ?_
  refine WC.region ?_
  refine l_rd rfl rfl (x_move (by conv => lhs; whnf)) ?_
  refine l_st rfl (s_callL cal33 (c33 _ (H.obj 0 rfl)) ?_)
  rintro _ w ⟨rfl, e1⟩
  have H := H.ext e1
  refine l_rd rfl rfl (x_not rfl) ?_
  refine WL.nil ?_
  refine WC.cond0 rfl ?_
  refine WC.skip ?_
  refine WC.seq ?_
  refine WC.draw mixed [5, 10, 11] [[], [], [1], [1, 2], [1, 2, 3], [1, 2, 3, 4], [], [6], [6, 7], [6, 7, 8], [1, 2, 3, 4, 5, 6, 7, 8, 9], [0, 1, 2, 3, 4, 5, 6, 7, 8, 9, 10], [0, 1, 2, 3, 4, 5, 6, 7, 8, 9, 10, 11]] [0, 1, 2, 3, 4, 6, 7, 8, 9, 5, 10, 11, 12] (by kernel_rfl) ?_
  have H := H.drew
  refine k_rd rfl rfl (RS.of rfl rfl (x_move (by conv => lhs; whnf))) ?_
  refine k_rd rfl rfl (RS.of rfl rfl (x_move (by conv => lhs; whnf))) ?_
  refine k_rd rfl rfl (RS.of rfl rfl (x_nilCheck rfl)) ?_
  refine k_rd rfl rfl (RS.of rfl rfl (x_fieldAddr (k := 2) Tryz.underlying81 rfl rfl ty74 (by decide) rfl)) ?_
  refine k_rd rfl rfl (RS.of rfl rfl (x_load Tryz.underlying74 rfl rfl (H.cellL 0 rfl rfl))) ?_
  refine k_rd rfl rfl (RS.of rfl rfl (x_move (by conv => lhs; whnf))) ?_
  refine k_rd rfl rfl (RS.of rfl rfl (x_nilCheck rfl)) ?_
  refine k_rd rfl rfl (RS.of rfl rfl (x_fieldAddr (k := 0) Tryz.underlying81 rfl rfl ty79 (by decide) rfl)) ?_
  refine k_rd rfl rfl (RS.of rfl rfl (x_loadF (vs := [_]) Tryz.underlying79 rfl ty79 rfl rfl (H.cellsL 0 rfl rfl))) ?_
  refine k_st rfl rfl rfl (s_callL cal70 (c70 _ hR.hE hA hR.cl.okn hEd hR.cl.fin (Hd.arrT [_, _, _, _, _, _, _, _] [2, 3, 4, 5, 6, 7, 0, 1] (by decide) rfl H)) ?_)
  rintro v12 w ⟨l2, hsh, H⟩
  refine ⟨⟨RS.of rfl rfl (x_loadF (vs := [_]) Tryz.underlying79 rfl ty79 rfl rfl (H.cellsL 7 rfl rfl)), ⟨RS.of rfl rfl (x_fieldAddr (k := 0) Tryz.underlying81 rfl rfl ty79 (by decide) rfl), ⟨RS.of rfl rfl (x_nilCheck rfl), ⟨RS.of rfl rfl (x_move (by (conv => lhs; whnf); try rfl)), ⟨trivial, ⟨trivial, ⟨trivial, ⟨trivial, ⟨RS.of rfl rfl (x_move (by (conv => lhs; whnf); try rfl)), trivial⟩⟩⟩⟩⟩⟩⟩⟩⟩, ?_⟩
  refine k_st rfl rfl rfl (s_callL cal71 (c71 _ hR.vi.nd (by have := hR.vi.len; omega) (Hd.arrT [_, _, _, _, _, _, _, _, _] [8, 0, 1, 2, 3, 4, 5, 6, 7] (by decide) rfl H)) ?_)
  rintro v17 w ⟨lo, hsl, H⟩
  refine ⟨⟨trivial, ⟨trivial, ⟨trivial, ⟨trivial, ⟨trivial, ⟨trivial, ⟨trivial, ⟨trivial, ⟨RS.of rfl rfl (x_move (by (conv => lhs; whnf); try rfl)), trivial⟩⟩⟩⟩⟩⟩⟩⟩⟩, ?_⟩
  have htr : l2.length ≤ 400 := tree_len hsh hR.cl.fin hEd (fun p t h => h)
  have hll : lo.length ≤ 1000 := by
    have h9 := loop_len hsl (fun p t h => h)
    have := hR.vi.len; omega
  obtain ⟨a6, c6, rfl⟩ := (H.sl 2 rfl).shape
  obtain ⟨a8, c8, rfl⟩ := (H.sl 0 rfl).shape
  refine k_st rfl rfl rfl (s_callL cal40 (c40 _ H) ?_)
  rintro _ w ⟨k3, k4, k5, rfl, H⟩
  refine ⟨⟨trivial, ⟨trivial, ⟨trivial, ⟨trivial, ⟨trivial, ⟨trivial, ⟨trivial, ⟨trivial, ⟨trivial, trivial⟩⟩⟩⟩⟩⟩⟩⟩⟩, ?_⟩
  refine k_rd rfl rfl (RS.of rfl rfl (x_assign (by conv => lhs; whnf))) ?_
  show _
  refine WC.ret ?_
  refine atRet ?_
  exact RetM.one rfl (by (conv => lhs; whnf); try rfl) (⟨k3, k4, k5, _, _, l2, lo, rfl, mrg_shw hsh hsl (loop_diag hR.vi hsl), by have := mrg_len (em := em) (tr := l2) (lo := lo); omega, Hd.sep (A := [pt k4 (.cells #[.slice a6 l2.length c6] 38 (0, 0)), Sl (.slice a6 l2.length c6) 43 3 l2.length (l2.flatMap pcC), pt k3 (.cells #[.pointer (some ⟨ro, 0, none⟩)] 29 (0, 0)), pt k5 (.cells #[.slice a8 lo.length c8] 38 (0, 0)), Sl (.slice a8 lo.length c8) 43 3 lo.length (lo.flatMap pcC), pt ro (.cells #[.map (some mv), .pointer (some ⟨a, 0, none⟩), .pointer (some ⟨f, 0, none⟩)] 81 (0, 0)), fz g]) (Hd.arrT [_, _, _, _, _, _, _, _, _, _, _, _, _] [0, 5, 1, 2, 3, 12, 11, 4, 6, 7, 8, 9, 10] (by decide) rfl H)⟩)
theorem c8 {s : Sy} [NoEx s] {L : List Hp} {w0 : World} {t : Et} (w : World) (hT : TB w0) (ht : EtR w0 t) (H : Hd s w (fr w0 :: L)) : CC Tryz.prog 8 [.agg (etC t).toArray].toArray w (fun r w' => (¬ rightT t ∧ r = .tuple #[.pointer none, I 2] ∧ Hd s w' (fr w0 :: L)) ∨ (rightT t ∧ dfaF t = none ∧ r = .tuple #[.pointer none, I 11] ∧ Hd s w' (fr w0 :: L)) ∨ (rightT t ∧ ∃ (A : Gr) (g : KE.Sub) (ro a f mn ml mv : Nat), dfaF t = some A ∧ r = .tuple #[.pointer (some ⟨ro, 0, none⟩), I 0] ∧ AuG g a A ∧ RI (takesA A 0) A [] (-1) (-1) [] [] [] ∧ Hd s w' (pt ro (.cells #[.map (some mv), .pointer (some ⟨a, 0, none⟩), .pointer (some ⟨f, 0, none⟩)] 81 (0, 0)) :: Mp TS mv (([] : List (ByteArray × Int)).map (gval I)) :: pt f (.cells (foC a mn ml (-1) (-1)).toArray 143 (0, 0)) :: Mp TSp mn (([] : Nn).map (gval pI)) :: IM TS I ([] : Nn) :: Mp TS ml (([] : Ln).map (gval pI)) :: IM TLk I ([] : Ln) :: fz g :: fr w0 :: L))) := by
  refine CC.of (N := 29) Tryz.func8 rfl rfl rfl ?_
  refine WC.seq ?_
  refine WC.region ?_
  refine l_st rfl (s_box (by conv => lhs; whnf) H fun b1 w H => ?_)
  refine l_rd rfl rfl (x_assign ev_c) ?_
  refine l_rd rfl rfl (x_assign ev_c) ?_
  refine WL.nil ?_
  refine WC.seq ?_
  refine WC.region ?_
  refine l_rd rfl rfl (x_loadF (vs := [_, _, _]) Tryz.underlying25 rfl ty25 rfl rfl (H.cellsL 0 rfl rfl)) ?_
  refine l_st rfl (s_callL cal30 (c30 _ hT ht (Hd.arrT [_, _] [1, 0] (by decide) rfl H)) ?_)
  rintro _ w (⟨hnr, rfl, H⟩ | ⟨hr, hd, rfl, H⟩ | ⟨hr, A, a, g, hd, rfl, hA, H⟩)
  ·
    refine l_rd rfl rfl (x_move (by conv => lhs; whnf)) ?_
    refine l_rd rfl rfl (x_extract rfl rfl) ?_
    refine l_rd rfl rfl (x_extract rfl rfl) ?_
    refine l_rd rfl rfl (x_assign (by conv => lhs; whnf)) ?_
    refine l_rd rfl rfl (x_assign (by conv => lhs; whnf)) ?_
    refine WL.nil ?_
    refine WC.seq ?_
    refine WC.seq ?_
    refine WC.region ?_
    refine l_rd rfl rfl (x_move (by conv => lhs; whnf)) ?_
    refine l_rdD rfl rfl (x_neq rfl rfl) (fun h13 => ?_) (fun h13 => ?_)
    ·
      refine WL.nil ?_
      refine WC.cond1 rfl ?_
      refine WC.seq ?_
      refine WC.region ?_
      refine l_rd rfl rfl (x_move (by conv => lhs; whnf)) ?_
      refine l_rd rfl rfl (x_assign ev_c) ?_
      refine l_rd rfl rfl (x_assign (by conv => lhs; whnf)) ?_
      refine WL.nil ?_
      refine WC.ret ?_
      refine atRet ?_
      exact RetM.two rfl (by (conv => lhs; whnf); try rfl) (by (conv => lhs; whnf); try rfl) (.inl ⟨hnr, rfl, Hd.arrT [_, _] [0] (by decide) rfl H⟩)
    ·
      exact absurd (by decide) h13
  ·
    refine l_rd rfl rfl (x_move (by conv => lhs; whnf)) ?_
    refine l_rd rfl rfl (x_extract rfl rfl) ?_
    refine l_rd rfl rfl (x_extract rfl rfl) ?_
    refine l_rd rfl rfl (x_assign (by conv => lhs; whnf)) ?_
    refine l_rd rfl rfl (x_assign (by conv => lhs; whnf)) ?_
    refine WL.nil ?_
    refine WC.seq ?_
    refine WC.seq ?_
    refine WC.region ?_
    refine l_rd rfl rfl (x_move (by conv => lhs; whnf)) ?_
    refine l_rdD rfl rfl (x_neq rfl rfl) (fun h13 => ?_) (fun h13 => ?_)
    ·
      refine WL.nil ?_
      refine WC.cond1 rfl ?_
      refine WC.seq ?_
      refine WC.region ?_
      refine l_rd rfl rfl (x_move (by conv => lhs; whnf)) ?_
      refine l_rd rfl rfl (x_assign ev_c) ?_
      refine l_rd rfl rfl (x_assign (by conv => lhs; whnf)) ?_
      refine WL.nil ?_
      refine WC.ret ?_
      refine atRet ?_
      exact RetM.two rfl (by (conv => lhs; whnf); try rfl) (by (conv => lhs; whnf); try rfl) (.inr (.inl ⟨hr, hd, rfl, Hd.arrT [_, _] [0] (by decide) rfl H⟩))
    ·
      exact absurd (by decide) h13
  ·
    obtain ⟨hE, hAt⟩ := dfaF_ok hd
    refine l_rd rfl rfl (x_move (by conv => lhs; whnf)) ?_
    refine l_rd rfl rfl (x_extract rfl rfl) ?_
    refine l_rd rfl rfl (x_extract rfl rfl) ?_
    refine l_rd rfl rfl (x_assign (by conv => lhs; whnf)) ?_
    refine l_rd rfl rfl (x_assign (by conv => lhs; whnf)) ?_
    refine WL.nil ?_
    refine WC.seq ?_
    refine WC.seq ?_
    refine WC.region ?_
    refine l_rd rfl rfl (x_move (by conv => lhs; whnf)) ?_
    refine l_rdD rfl rfl (x_neq rfl rfl) (fun h13 => ?_) (fun h13 => ?_)
    ·
      exact absurd rfl h13
    ·
      refine WL.nil ?_
      refine WC.cond0 rfl ?_
      refine WC.skip ?_
      refine WC.seq ?_
      refine WC.region ?_
      refine l_rd rfl rfl (x_move (by conv => lhs; whnf)) ?_
      refine l_st rfl (s_callL cal31 (c31 _ hA hE.2.1 (Hd.arrT [_, _, _] [0, 1, 2] (by decide) rfl H)) ?_)
      rintro _ w ⟨f, mn, ml, rfl, H⟩
      refine l_rd rfl rfl (x_move (by conv => lhs; whnf)) ?_
      refine l_rd rfl rfl (x_extract rfl rfl) ?_
      refine l_rd rfl rfl (x_extract rfl rfl) ?_
      refine l_rd rfl rfl (x_assign (by conv => lhs; whnf)) ?_
      refine l_rd rfl rfl (x_assign (by conv => lhs; whnf)) ?_
      refine WL.nil ?_
      refine WC.seq ?_
      refine WC.seq ?_
      refine WC.region ?_
      refine l_rd rfl rfl (x_move (by conv => lhs; whnf)) ?_
      refine l_rdD rfl rfl (x_neq rfl rfl) (fun h21 => ?_) (fun h21 => ?_)
      ·
        exact absurd rfl h21
      ·
        refine WL.nil ?_
        refine WC.cond0 rfl ?_
        refine WC.skip ?_
        refine WC.seq ?_
        refine WC.region ?_
        refine l_st rfl (s_makeMap H (fun m23 w H => ?_))
        have H := Hd.weak H (Mp.made TS)
        refine l_rd rfl rfl (x_buildL (pl := [(0, 1)]) (cells := [.map (some m23)]) Tryz.underlying79 ty79 (by kernel_rfl) rfl) ?_
        refine l_rd rfl rfl (x_move (by conv => lhs; whnf)) ?_
        refine l_rd rfl rfl (x_move (by conv => lhs; whnf)) ?_
        refine l_rd rfl rfl (x_buildL (pl := [(0, 1), (1, 1), (2, 1)]) (cells := [.map (some m23), .pointer (some ⟨a, 0, none⟩), .pointer (some ⟨f, 0, none⟩)]) Tryz.underlying81 ty81 (by kernel_rfl) rfl) ?_
        refine l_st rfl (s_box (by conv => lhs; whnf) H fun b28 w H => ?_)
        refine l_rd rfl rfl (x_assign (by conv => lhs; whnf)) ?_
        refine l_rd rfl rfl (x_assign ev_c) ?_
        refine WL.nil ?_
        refine WC.ret ?_
        refine atRet ?_
        exact RetM.two rfl (by (conv => lhs; whnf); try rfl) (by (conv => lhs; whnf); try rfl) (.inr (.inr ⟨hr, A, g, b28, a, f, mn, ml, m23, hd, rfl, hA, RI.new hE hAt, Hd.arrT [_, _, _, _, _, _, _, _, _, _] [0, 1, 2, 3, 4, 5, 6, 7, 8] (by decide) rfl H⟩))
end Go.Proofs.YteibnmkikdbndaaGreatDoor
