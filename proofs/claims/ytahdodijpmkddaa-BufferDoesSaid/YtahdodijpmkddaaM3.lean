/-
  What functions of this seat do: contracts, proved by walks, and the plain laws that they need; each with the conditions that it names.
-/
import Derived.Test.YtahdodijpmkddaaM2
import Derived.Test.YtahdodijpmkddaaE3
set_option linter.unusedVariables false
set_option linter.unusedSimpArgs false
namespace Go.Proofs.Ytahdodijpmkddaa
open Go Go.RowKit KE Go.Proofs
theorem ty4 : Ty Try.prog 4 (.bool false) 1 1 := Ty.of (by kernel_rfl)
theorem ty69 : Ty Try.prog 69 (.agg #[(.int .i64 0), (.int .i64 0)]) 2 16 := Ty.of (by kernel_rfl)
theorem ty76 : Ty Try.prog 76 (.slice none 0 0) 1 24 := Ty.of (by kernel_rfl)
theorem cal50 : Cal Try.prog 50 := ⟨_, Try.func50, rfl, by decide⟩
theorem cal87 : Cal Try.prog 87 := ⟨_, Try.func87, rfl, by decide⟩

abbrev itC (p : Int × Int) : List Value := [I p.1, I p.2]
theorem itC_len (p : Int × Int) : (itC p).length = 2 := rfl
def ordI (p q : Int × Int) : Int := orI [cmpI p.1 q.1, cmpI p.2 q.2]
def HeapR (w : World) (h : Nat) (xs : List (Int × Int)) : Prop := ∃ v f, w.heap[h]? = some (.cells #[v, .bool true] 78 f) ∧ RdS w v 2 itC xs
theorem HeapR.old {w w' : World} {h : Nat} {xs : List (Int × Int)} (hr : HeapR w h xs) (o : Old w w') : HeapR w' h xs := by
  obtain ⟨v, f, h1, h2⟩ := hr; exact ⟨v, f, o _ _ h1, o.rdS h2⟩
def HeapP (h : Nat) (xs : List (Int × Int)) : Hp := fun m => ∃ v : Value, True ∧ star (pt h (.cells #[v, .bool true] 78 (0, 0))) (Sl v 69 2 xs.length (xs.flatMap itC)) m
theorem HeapP.opn {s : Sy} {w : World} {L : List Hp} {h : Nat} {xs : List (Int × Int)} (H : Hd s w (HeapP h xs :: L)) : ∃ v, Hd s w (pt h (.cells #[v, .bool true] 78 (0, 0)) :: Sl v 69 2 xs.length (xs.flatMap itC) :: L) := by
  obtain ⟨v, _, h2⟩ := Hd.opn (φ := fun _ => True) (q := fun v : Value => star (pt h (.cells #[v, .bool true] 78 (0, 0))) (Sl v 69 2 xs.length (xs.flatMap itC))) H (fun x hx => hx)
  exact ⟨v, h2.unstar⟩
theorem HeapP.mk {s : Sy} {w : World} {L : List Hp} {h : Nat} {xs : List (Int × Int)} {v : Value} (H : Hd s w (pt h (.cells #[v, .bool true] 78 (0, 0)) :: Sl v 69 2 xs.length (xs.flatMap itC) :: L)) : Hd s w (HeapP h xs :: L) :=
  H.star.weak fun m hm => ⟨v, trivial, hm⟩
theorem HeapP.rd {s : Sy} {w : World} {L : List Hp} {h : Nat} {xs : List (Int × Int)} (H : Hd s w L) (i : Nat) (hi : L[i]? = some (HeapP h xs)) : HeapR w h xs := by
  obtain ⟨v, h2⟩ := HeapP.opn (H.pick i hi)
  exact ⟨v, _, h2.obj 0 rfl, h2.sl 1 rfl⟩
theorem head_at {xs : List (Int × Int)} {x : Int × Int} (h : xs[0]? = some x) : xs.headD (0, 0) = x := by
  cases xs with
  | nil => simp at h
  | cons y xs => simp at h; simpa using h
theorem c80 {p q : Int × Int} (w : World) : CC Try.prog 80 [.agg (itC p).toArray, .agg (itC q).toArray].toArray w (fun r w' => r = I (ordI p q) ∧ Ext w w') := by
  obtain ⟨w0, e0⟩ : ∃ w0, w0 = w := ⟨w, rfl⟩
  subst e0
  have H := Hd.start w0
  refine CC.of (N := 17) Try.func80 rfl rfl rfl ?_
  refine WC.seq ?_
  refine WC.region ?_
  refine l_st rfl (s_box (by conv => lhs; whnf) H fun b2 w H => ?_)
  refine l_st rfl (s_box (by conv => lhs; whnf) H fun b3 w H => ?_)
  refine l_rd rfl rfl (x_assign ev_c) ?_
  refine WL.nil ?_
  refine WC.seq ?_
  refine WC.draw mixed [4, 9, 10, 11] [[], [0], [], [2], [0, 1, 2, 3], [], [5], [], [7], [0, 1, 2, 3, 4, 5, 6, 7, 8], [0, 1, 2, 3, 4, 5, 6, 7, 8, 9], [0, 1, 2, 3, 4, 5, 6, 7, 8, 9, 10], [0, 1, 2, 3, 4, 5, 6, 7, 8, 9, 10, 11]] [0, 1, 2, 3, 5, 6, 7, 8, 4, 9, 10, 11, 12] (by kernel_rfl) ?_
  have H := H.drew
  refine k_rd rfl rfl (RS.of rfl rfl (x_fieldAddr Try.underlying69 rfl rfl ty3 (by decide) rfl)) ?_
  refine k_rd rfl rfl (RS.of rfl rfl (x_load Try.underlying3 rfl rfl (H.cellL 1 rfl rfl))) ?_
  refine k_rd rfl rfl (RS.of rfl rfl (x_fieldAddr Try.underlying69 rfl rfl ty3 (by decide) rfl)) ?_
  refine k_rd rfl rfl (RS.of rfl rfl (x_load Try.underlying3 rfl rfl (H.cellL 0 rfl rfl))) ?_
  refine k_rd rfl rfl (RS.of rfl rfl (x_fieldAddr Try.underlying69 rfl rfl ty3 (by decide) rfl)) ?_
  refine k_rd rfl rfl (RS.of rfl rfl (x_load Try.underlying3 rfl rfl (H.cellL 1 rfl rfl))) ?_
  refine k_rd rfl rfl (RS.of rfl rfl (x_fieldAddr Try.underlying69 rfl rfl ty3 (by decide) rfl)) ?_
  refine k_rd rfl rfl (RS.of rfl rfl (x_load Try.underlying3 rfl rfl (H.cellL 0 rfl rfl))) ?_
  refine k_st rfl rfl rfl (s_callL cal78 (c78 _) ?_)
  rintro _ w ⟨rfl, e1⟩
  have H := H.ext e1
  refine ⟨⟨RS.of rfl rfl (x_load Try.underlying3 rfl rfl (H.cellL 0 rfl rfl)), ⟨RS.of rfl rfl (x_fieldAddr Try.underlying69 rfl rfl ty3 (by decide) rfl), ⟨RS.of rfl rfl (x_load Try.underlying3 rfl rfl (H.cellL 1 rfl rfl)), ⟨RS.of rfl rfl (x_fieldAddr Try.underlying69 rfl rfl ty3 (by decide) rfl), ⟨trivial, ⟨trivial, ⟨trivial, ⟨trivial, trivial⟩⟩⟩⟩⟩⟩⟩⟩, ?_⟩
  refine k_st rfl rfl rfl (s_callL cal78 (c78 _) ?_)
  rintro _ w ⟨rfl, e1⟩
  have H := H.ext e1
  refine ⟨⟨trivial, ⟨trivial, ⟨trivial, ⟨trivial, ⟨trivial, ⟨trivial, ⟨trivial, ⟨trivial, trivial⟩⟩⟩⟩⟩⟩⟩⟩, ?_⟩
  refine k_st rfl rfl rfl (s_buildN (xs := [.tmp 9, .tmp 14]) (vs := [cmpI p.1 q.1, cmpI p.2 q.2].map I) Try.underlying112 ty3 rfl rfl rfl rfl (by decide) (by decide) (fun v hv => by obtain ⟨x, _, rfl⟩ := List.mem_map.1 hv; rfl) H fun b15 w H => ⟨⟨trivial, ⟨trivial, ⟨trivial, ⟨trivial, ⟨trivial, ⟨trivial, ⟨trivial, ⟨trivial, trivial⟩⟩⟩⟩⟩⟩⟩⟩, ?_⟩)
  refine k_st rfl rfl rfl (s_callL cal77 (c77 (xs := [cmpI p.1 q.1, cmpI p.2 q.2]) _ (H.sl 0 rfl)) ?_)
  rintro _ w ⟨rfl, e1⟩
  have H := H.ext e1
  refine ⟨⟨trivial, ⟨trivial, ⟨trivial, ⟨trivial, ⟨trivial, ⟨trivial, ⟨trivial, ⟨trivial, trivial⟩⟩⟩⟩⟩⟩⟩⟩, ?_⟩
  refine k_rd rfl rfl (RS.of rfl rfl (x_assign (by conv => lhs; whnf))) ?_
  show _
  refine WC.ret ?_
  refine atRet ?_
  exact RetM.one rfl (by (conv => lhs; whnf); try rfl) (⟨rfl, H.below 3 rfl⟩)

theorem c50 {h : Nat} {v : Value} {f : Nat × Nat} (w : World) (hB : w.heap[h]? = some (.cells #[v, .bool true] 78 f)) : CC Try.prog 50 [.pointer (some ⟨h, 0, none⟩)].toArray w (fun r w' => r = .bool true ∧ Ext w w') := by
  obtain ⟨w0, e0⟩ : ∃ w0, w0 = w := ⟨w, rfl⟩
  subst e0
  have H := Hd.start w0
  refine CC.of (N := 11) Try.func50 rfl rfl rfl ?_
  refine WC.seq ?_
  refine WC.region ?_
  refine l_rd rfl rfl (x_assign ev_c) ?_
  refine WL.nil ?_
  refine WC.seq ?_
  refine WC.region ?_
  refine l_rd rfl rfl (x_move (by conv => lhs; whnf)) ?_
  refine l_rd rfl rfl (x_neqPN Try.underlying50 rfl) ?_
  refine l_rd rfl rfl (x_move (by conv => lhs; whnf)) ?_
  refine l_gy (wantY rfl rfl rfl) rfl rfl (x_move (by conv => lhs; whnf)) ?_
  refine l_gy (wantY rfl rfl rfl) rfl rfl (x_nilCheck rfl) ?_
  refine l_gy (wantY rfl rfl rfl) rfl rfl (x_fieldAddr Try.underlying78 rfl rfl ty4 (by decide) rfl) ?_
  refine l_gy (wantY rfl rfl rfl) rfl rfl (x_load Try.underlying4 rfl rfl (cell_ofL ((H.old 0 rfl) _ _ hB) rfl)) ?_
  refine l_rd rfl rfl (x_pick1 rfl (by conv => lhs; whnf)) ?_
  refine l_rd rfl rfl (x_assign (by conv => lhs; whnf)) ?_
  refine WL.nil ?_
  refine WC.ret ?_
  refine atRet ?_
  exact RetM.one (v := .bool true) rfl rfl ⟨rfl, H.below 0 rfl⟩

theorem c87 {h : Nat} {xs : List (Int × Int)} (w : World) (hR : HeapR w h xs) : CC Try.prog 87 [.pointer (some ⟨h, 0, none⟩)].toArray w (fun r w' => r = I xs.length ∧ Ext w w') := by
  obtain ⟨w0, e0⟩ : ∃ w0, w0 = w := ⟨w, rfl⟩
  subst e0
  have H := Hd.start w0
  obtain ⟨v, f, hB, hr⟩ := hR
  obtain ⟨a, c, rfl⟩ := hr.shape
  have hle := hr.le
  refine CC.of (N := 11) Try.func87 rfl rfl rfl ?_
  refine WC.seq ?_
  refine WC.region ?_
  refine l_rd rfl rfl (x_assign ev_c) ?_
  refine WL.nil ?_
  refine WC.seq ?_
  refine WC.seq ?_
  refine WC.region ?_
  refine l_rd rfl rfl (x_move (by conv => lhs; whnf)) ?_
  refine l_st rfl (s_callL cal50 (c50 _ ((H.old 0 rfl) _ _ hB)) ?_)
  rintro _ w ⟨rfl, e1⟩
  have H := H.ext e1
  refine l_rd rfl rfl (x_not rfl) ?_
  refine WL.nil ?_
  refine WC.cond0 rfl ?_
  refine WC.skip ?_
  refine WC.seq ?_
  refine WC.region ?_
  refine l_rd rfl rfl (x_move (by conv => lhs; whnf)) ?_
  refine l_rd rfl rfl (x_nilCheck rfl) ?_
  refine l_rd rfl rfl (x_fieldAddr Try.underlying78 rfl rfl ty76 (by decide) rfl) ?_
  refine l_rd rfl rfl (x_load Try.underlying76 rfl rfl (cell_ofL ((H.old 0 rfl) _ _ hB) rfl)) ?_
  refine l_rd rfl rfl (x_lenSlice Try.underlying76 rfl rfl) ?_
  refine l_rd rfl rfl (x_assign (by conv => lhs; whnf)) ?_
  refine WL.nil ?_
  refine WC.ret ?_
  refine atRet ?_
  exact RetM.one rfl (by (conv => lhs; whnf); try rfl) (⟨rfl, H.below 0 rfl⟩)

theorem c70 {h : Nat} {xs : List (Int × Int)} (w : World) (hR : HeapR w h xs) : CC Try.prog 70 [.pointer (some ⟨h, 0, none⟩)].toArray w (fun r w' => r = .tuple #[.agg (itC (xs.headD (0, 0))).toArray, .bool (decide (xs ≠ []))] ∧ Ext w w') := by
  obtain ⟨w0, e0⟩ : ∃ w0, w0 = w := ⟨w, rfl⟩
  subst e0
  have H := Hd.start w0
  have hR0 := hR
  obtain ⟨v, f, hB, hr⟩ := hR
  obtain ⟨a, c, rfl⟩ := hr.shape
  have hle := hr.le
  refine CC.of (N := 14) Try.func70 rfl rfl rfl ?_
  refine WC.seq ?_
  refine WC.region ?_
  refine l_st rfl (s_alloc ty69 H fun b2 w H => ?_)
  refine l_rd rfl rfl (x_assign ev_c) ?_
  refine WL.nil ?_
  refine WC.seq ?_
  refine WC.seq ?_
  refine WC.region ?_
  refine l_rd rfl rfl (x_move (by conv => lhs; whnf)) ?_
  refine l_st rfl (s_callL cal87 (c87 _ (hR0.old (H.old 1 rfl))) ?_)
  rintro _ w ⟨rfl, e1⟩
  have H := H.ext e1
  refine l_rdD rfl rfl (x_eql rfl rfl) (fun h6 => ?_) (fun h6 => ?_)
  ·
    refine WL.nil ?_
    refine WC.cond1 rfl ?_
    refine WC.seq ?_
    refine WC.region ?_
    refine l_rd rfl rfl (x_buildL (pl := [(0, 1), (1, 1)]) (cells := [I 0, I 0]) Try.underlying69 ty69 (by kernel_rfl) rfl) ?_
    refine l_no (s_stA 0 rfl ty69 rfl (by conv => lhs; whnf) rfl rfl rfl H fun w H => ?_)
    refine l_rd rfl rfl (x_assign ev_c) ?_
    refine WL.nil ?_
    refine WC.ret ?_
    refine atRet ?_
    exact RetM.cellAT (vs := [_, _]) rfl (by (conv => lhs; whnf); try rfl) (by (conv => lhs; whnf); try rfl) Try.underlying69 rfl ty69 rfl (H.cellsL 0 rfl rfl) (⟨by rw [decide_eq_false (fun q => q (List.eq_nil_of_length_eq_zero (by omega))), show xs.headD (0, 0) = (0, 0) from by rw [List.eq_nil_of_length_eq_zero (show xs.length = 0 by omega)]; rfl], H.below 1 rfl⟩)
  ·
    refine WL.nil ?_
    refine WC.cond0 rfl ?_
    refine WC.skip ?_
    refine WC.seq ?_
    obtain ⟨x, hxk⟩ := lt_get (show 0 < xs.length by omega)
    obtain ⟨b1, o1, rfl, hc1⟩ := hr.el itC_len hxk
    refine WC.region ?_
    refine l_rd rfl rfl (x_move (by conv => lhs; whnf)) ?_
    refine l_rd rfl rfl (x_nilCheck rfl) ?_
    refine l_rd rfl rfl (x_fieldAddr Try.underlying78 rfl rfl ty76 (by decide) rfl) ?_
    refine l_rd rfl rfl (x_load Try.underlying76 rfl rfl (cell_ofL ((H.old 1 rfl) _ _ hB) rfl)) ?_
    refine l_rd rfl rfl (x_indexAddr Try.underlying76 ty69 rfl rfl (by omega) (by omega)) ?_
    refine l_rd rfl rfl (x_loadF (vs := [_, _]) Try.underlying69 rfl ty69 rfl rfl (sub_row 0 (fun j u hj => (H.old 1 rfl).cell (hc1 j u hj)) rfl)) ?_
    refine l_no (s_stA 0 rfl ty69 rfl (by conv => lhs; whnf) rfl rfl rfl H fun w H => ?_)
    refine l_rd rfl rfl (x_assign ev_c) ?_
    refine WL.nil ?_
    refine WC.ret ?_
    refine atRet ?_
    exact RetM.cellAT (vs := [_, _]) rfl (by (conv => lhs; whnf); try rfl) (by (conv => lhs; whnf); try rfl) Try.underlying69 rfl ty69 rfl (H.cellsL 0 rfl rfl) (⟨by rw [head_at hxk, decide_eq_true (show xs ≠ [] from fun q => by subst q; simp at hxk)], H.below 1 rfl⟩)

end Go.Proofs.Ytahdodijpmkddaa
set_option linter.unusedVariables false
set_option linter.unusedSimpArgs false
namespace Go.Proofs.Ytahdodijpmkddaa
open Go Go.RowKit KE Go.Proofs
theorem ty78 : Ty Try.prog 78 (.agg #[(.slice none 0 0), (.bool false)]) 2 32 := Ty.of (by kernel_rfl)
theorem cal51 : Cal Try.prog 51 := ⟨_, Try.func51, rfl, by decide⟩

theorem itC_one (xs : List (Int × Int)) : ∀ u ∈ xs.flatMap itC, oneC u = true := by
  intro u hu
  obtain ⟨p, _, hp⟩ := List.mem_flatMap.1 hu
  simp only [itC, List.mem_cons, List.not_mem_nil, or_false] at hp
  rcases hp with rfl | rfl <;> rfl
theorem sl_in {s : Sy} {w : World} {L : List Hp} {v : Value} {e : TypeId} {sz n : Nat} {cs : List Value} (H : Hd s w L) (hm : Sl v e sz n cs ∈ L) : RdC w v sz n cs := by
  obtain ⟨i, hi⟩ := List.getElem?_of_mem hm
  exact H.sl i hi
theorem c51 {s : Sy} {L : List Hp} {v : Value} {xs : List (Int × Int)} (w : World) (H : Hd s w L) (hr : ∀ w (A : List Hp), Hd s w (A ++ L) → RdS w v 2 itC xs) (hb : xs.length ≤ 1000000) : CC Try.prog 51 [v].toArray w (fun r w' => Hd s w' (Sl r 69 2 xs.length (xs.flatMap itC) :: L)) := by
  obtain ⟨a, c, rfl⟩ := (hr w [] H).shape
  refine CC.of (N := 8) Try.func51 rfl rfl rfl ?_
  refine WC.seq ?_
  refine WC.region ?_
  refine l_rd rfl rfl (x_assign ev_c) ?_
  refine WL.nil ?_
  refine WC.seq ?_
  refine WC.seq ?_
  refine WC.region ?_
  refine l_rd rfl rfl (x_move (by conv => lhs; whnf)) ?_
  refine l_rdD rfl rfl (x_eqlSN Try.underlying76 rfl) (fun h4 => ?_) (fun h4 => ?_)
  ·
    refine WL.nil ?_
    refine WC.cond1 rfl ?_
    refine WC.seq ?_
    refine WC.region ?_
    refine l_rd rfl rfl (x_assign ev_c) ?_
    refine WL.nil ?_
    refine WC.ret ?_
    refine atRet ?_
    exact RetM.one rfl (by (conv => lhs; whnf); try rfl) (by subst h4; obtain rfl := (hr _ [] H).none; exact Hd.nil H 69 2)
  ·
    refine WL.nil ?_
    refine WC.cond0 rfl ?_
    refine WC.skip ?_
    refine WC.seq ?_
    refine WC.region ?_
    refine l_st rfl (s_build0 Try.underlying76 ty69 H fun b5 w H => ?_)
    refine l_rd rfl rfl (x_move (by conv => lhs; whnf)) ?_
    refine l_st rfl (s_append Try.underlying76 ty69 rfl (by decide) (by decide) rfl 0 rfl rfl rfl (hr _ [_] H) (itC_one _) (by omega) H fun v7 w H => ?_)
    obtain ⟨a7, c7, rfl⟩ := (H.sl 0 rfl).shape
    refine l_rd rfl rfl (x_assign (by conv => lhs; whnf)) ?_
    refine WL.nil ?_
    refine WC.ret ?_
    refine atRet ?_
    exact RetM.one rfl (by (conv => lhs; whnf); try rfl) (by rw [Nat.zero_add] at H ⊢; exact H)

theorem c27 {s : Sy} {L : List Hp} {h : Nat} {xs : List (Int × Int)} (w : World) (H : Hd s w (HeapP h xs :: L)) (hb : xs.length ≤ 1000000) : CC Try.prog 27 [.pointer (some ⟨h, 0, none⟩)].toArray w (fun r w' => ∃ h2 : Nat, r = .pointer (some ⟨h2, 0, none⟩) ∧ Hd s w' (HeapP h2 xs :: HeapP h xs :: L)) := by
  obtain ⟨v, H⟩ := HeapP.opn H
  obtain ⟨a, c, rfl⟩ := (H.sl 1 rfl).shape
  refine CC.of (N := 13) Try.func27 rfl rfl rfl ?_
  refine WC.seq ?_
  refine WC.region ?_
  refine l_rd rfl rfl (x_assign ev_c) ?_
  refine WL.nil ?_
  refine WC.seq ?_
  refine WC.seq ?_
  refine WC.region ?_
  refine l_rd rfl rfl (x_move (by conv => lhs; whnf)) ?_
  refine l_st rfl (s_callL cal50 (c50 _ (H.obj 0 rfl)) ?_)
  rintro _ w ⟨rfl, e1⟩
  have H := H.ext e1
  refine l_rd rfl rfl (x_not rfl) ?_
  refine WL.nil ?_
  refine WC.cond0 rfl ?_
  refine WC.skip ?_
  refine WC.seq ?_
  refine WC.region ?_
  refine l_rd rfl rfl (x_move (by conv => lhs; whnf)) ?_
  refine l_rd rfl rfl (x_nilCheck rfl) ?_
  refine l_rd rfl rfl (x_fieldAddr Try.underlying78 rfl rfl ty76 (by decide) rfl) ?_
  refine l_rd rfl rfl (x_load Try.underlying76 rfl rfl (H.cellL 0 rfl rfl)) ?_
  refine l_st rfl (s_callL cal51 (c51 _ H (fun w A h => sl_in h (List.mem_append_right _ (List.mem_cons_of_mem _ List.mem_cons_self))) hb) ?_)
  rintro pv w H
  obtain ⟨a2, c2, rfl⟩ := (H.sl 0 rfl).shape
  refine l_rd rfl rfl (x_buildL (pl := [(0, 1), (1, 1)]) (cells := [.slice a2 xs.length c2, .bool true]) Try.underlying78 ty78 (by kernel_rfl) rfl) ?_
  refine l_st rfl (s_box (by conv => lhs; whnf) H fun b12 w H => ?_)
  refine l_rd rfl rfl (x_assign (by conv => lhs; whnf)) ?_
  refine WL.nil ?_
  refine WC.ret ?_
  refine atRet ?_
  exact RetM.one rfl (by (conv => lhs; whnf); try rfl) (⟨b12, rfl, HeapP.mk (Hd.arrT [_, _, _] [1, 2, 0] (by decide) rfl (HeapP.mk (Hd.arrT [_, _, _, _] [2, 3, 0, 1] (by decide) rfl H)))⟩)

end Go.Proofs.Ytahdodijpmkddaa
set_option linter.unusedVariables false
set_option linter.unusedSimpArgs false
namespace Go.Proofs.Ytahdodijpmkddaa
open Go Go.RowKit KE Go.Proofs
theorem ty28 : Ty Try.prog 28 (.slice none 0 0) 1 24 := Ty.of (by kernel_rfl)
theorem cal38 : Cal Try.prog 38 := ⟨_, Try.func38, rfl, by decide⟩
theorem cal67 : Cal Try.prog 67 := ⟨_, Try.func67, rfl, by decide⟩
theorem c36 {R : Nat} {v : Value} {fl : Nat × Nat} {es : List Ed} {f : Ed} (w : World) (hB : w.heap[R]? = some (.cells #[v] 30 fl)) (hr : RdS w v 5 edC es) : CC Try.prog 36 [.pointer (some ⟨R, 0, none⟩), .agg (edC f).toArray].toArray w (fun r w' => r = .bool (decide (∃ e ∈ es, cmpE e f = 0)) ∧ Ext w w') := by
  obtain ⟨w0, e0⟩ : ∃ w0, w0 = w := ⟨w, rfl⟩
  subst e0
  have H := Hd.start w0
  obtain ⟨a, c, rfl⟩ := hr.shape
  have hle := hr.le
  refine CC.of (N := 24) Try.func36 rfl rfl rfl ?_
  refine WC.seq ?_
  refine WC.region ?_
  refine l_st rfl (s_box (by conv => lhs; whnf) H fun b3 w H => ?_)
  refine l_rd rfl rfl (x_assign ev_c) ?_
  refine WL.nil ?_
  refine WC.seq ?_
  refine WC.seq ?_
  refine WC.region ?_
  refine l_rd rfl rfl (x_assign ev_c) ?_
  refine WL.nil ?_
  refine WC.block ?_
  refine WC.loop (fun ρ ds w => ∃ k : Nat, k ≤ es.length ∧ (∀ (j : Nat) (e : Ed), j < k → es[j]? = some e → ¬ cmpE e f = 0) ∧ ρ 5 = I k ∧ ρ 0 = .pointer (some ⟨R, 0, none⟩) ∧ ρ 3 = .pointer (some ⟨b3, 0, none⟩) ∧ ds = [] ∧ Hd (sy w0) w [pt b3 (.cells (edC f).toArray 33 (0, 0)), fr w0]) (fun ρ w => es.length - (match ρ 5 with | .int _ k => k.toNat | _ => 0)) (⟨0, Nat.zero_le _, fun j e h => absurd h (by omega), rfl, rfl, rfl, rfl, H⟩) ?_
  repeat clear H
  rintro ρ ds w ⟨k, hk, he, h5, h0, h3, rfl, H⟩
  refine WC.seq ?_
  refine WC.seq ?_
  refine WC.region ?_
  refine l_rd rfl rfl (x_move h5) ?_
  refine l_rd rfl rfl (x_move h0) ?_
  refine l_rd rfl rfl (x_nilCheck rfl) ?_
  refine l_rd rfl rfl (x_fieldAddr Try.underlying30 rfl rfl ty28 (by decide) rfl) ?_
  refine l_rd rfl rfl (x_load Try.underlying28 rfl rfl (cell_ofL ((H.old 1 rfl) _ _ hB) rfl)) ?_
  refine l_rd rfl rfl (x_lenSlice Try.underlying28 rfl rfl) ?_
  refine l_rdD rfl rfl (x_lss rfl rfl) (fun h12 => ?_) (fun h12 => ?_)
  ·
    refine WL.nil ?_
    refine WC.cond1 rfl ?_
    refine WC.skip ?_
    refine WC.seq ?_
    refine WC.block ?_
    refine WC.seq ?_
    obtain ⟨x, hxk⟩ := lt_get (show k < es.length by omega)
    obtain ⟨b1, o1, rfl, hc1⟩ := hr.el edC_len hxk
    refine WC.draw mixed [8] [[], [0], [0, 1], [0, 1, 2], [], [0, 1, 2, 3, 4], [0, 1, 2, 3, 4, 5], [], [0, 1, 2, 3, 4, 5, 6, 7]] [0, 1, 2, 3, 4, 5, 6, 7, 8] (by kernel_rfl) ?_
    have H := H.drew
    refine k_rd rfl rfl (RS.of rfl rfl (x_move h0)) ?_
    refine k_rd rfl rfl (RS.of rfl rfl (x_nilCheck rfl)) ?_
    refine k_rd rfl rfl (RS.of rfl rfl (x_fieldAddr Try.underlying30 rfl rfl ty28 (by decide) rfl)) ?_
    refine k_rd rfl rfl (RS.of rfl rfl (x_load Try.underlying28 rfl rfl (cell_ofL ((H.old 1 rfl) _ _ hB) rfl))) ?_
    refine k_rd rfl rfl (RS.of rfl rfl (x_move h5)) ?_
    refine k_rd rfl rfl (RS.of rfl rfl (x_indexAddr Try.underlying28 ty33 rfl rfl (by omega) (by omega))) ?_
    refine k_rd rfl rfl (RS.of rfl rfl (x_loadF (vs := [_, _, _, _, _]) Try.underlying33 rfl ty33 rfl rfl (sub_row 0 (fun j u hj => (H.old 1 rfl).cell (hc1 j u hj)) rfl))) ?_
    refine k_rd rfl rfl (RS.of rfl rfl (x_loadF (vs := [_, _, _, _, _]) Try.underlying33 rfl ty33 h3 rfl (H.cellsL 0 rfl rfl))) ?_
    refine k_st rfl rfl rfl (s_callL cal67 (c67 (e := x) (f := f) _) ?_)
    rintro r w ⟨hr1, e1⟩
    have H := H.ext e1
    by_cases h23 : cmpE x f = 0
    ·
      obtain rfl : r = .bool true := by rw [hr1, decide_eq_true h23]
      refine ⟨⟨trivial, ⟨trivial, ⟨trivial, ⟨trivial, ⟨trivial, ⟨trivial, ⟨trivial, ⟨trivial, trivial⟩⟩⟩⟩⟩⟩⟩⟩, ?_⟩
      show _
      refine WC.cond1 rfl ?_
      refine WC.seq ?_
      refine WC.region ?_
      refine l_rd rfl rfl (x_assign ev_c) ?_
      refine WL.nil ?_
      refine WC.ret ?_
      refine atRet ?_
      exact RetM.one rfl (by (conv => lhs; whnf); try rfl) (⟨by rw [decide_eq_true ⟨x, List.mem_of_getElem? hxk, h23⟩], H.below 1 rfl⟩)
    ·
      obtain rfl : r = .bool false := by rw [hr1, decide_eq_false h23]
      refine ⟨⟨trivial, ⟨trivial, ⟨trivial, ⟨trivial, ⟨trivial, ⟨trivial, ⟨trivial, ⟨trivial, trivial⟩⟩⟩⟩⟩⟩⟩⟩, ?_⟩
      show _
      refine WC.cond0 rfl ?_
      refine WC.skip ?_
      refine WC.region ?_
      refine l_rd rfl rfl (x_move h5) ?_
      refine l_rd rfl rfl (x_add rfl rfl (by omega) (by omega)) ?_
      refine l_rd rfl rfl (x_assign (by conv => lhs; whnf)) ?_
      refine WL.nil ?_
      refine WC.again (⟨k + 1, by omega, fun j e hj hje => by
            by_cases q : j = k
            · subst q; rw [hxk] at hje; cases hje; exact h23
            · exact he j e (by omega) hje, rfl, h0, h3, rfl, H⟩) (by show _ - _ < _ - _; rw [h5]; show es.length - ((k : Int) + 1).toNat < es.length - (k : Int).toNat; omega)
  ·
    refine WL.nil ?_
    refine WC.cond0 rfl ?_
    refine WC.exit ?_
    refine WC.seq ?_
    refine WC.region ?_
    refine l_rd rfl rfl (x_assign ev_c) ?_
    refine WL.nil ?_
    refine WC.ret ?_
    refine atRet ?_
    exact RetM.one rfl (by (conv => lhs; whnf); try rfl) (⟨by rw [decide_eq_false (fun ⟨e, hm, h⟩ => by obtain ⟨j, hj⟩ := List.getElem?_of_mem hm; exact he j e (by have := (List.getElem?_eq_some_iff.1 hj).1; omega) hj h)], H.below 1 rfl⟩)

theorem c16 {e f : Ed} {x : Eg} {a : Option Addr} {c : Nat} (w : World) (hx : EdR w e x) (hy : EdR w f x) (hpv : e.pv = .slice a x.props.length c) (hO : RdS w (.slice a (x.props.length + 12) c) 4 prC (x.props ++ mksK 12)) (hcap : x.props.length + 12 ≤ c) (hb : x.props.length ≤ 1000) : CC Try.prog 16 [.agg (edC e).toArray, .agg (edC f).toArray].toArray w (fun r w' => r = .bool true ∧ Ext w w') := by
  obtain ⟨w0, e0⟩ : ∃ w0, w0 = w := ⟨w, rfl⟩
  subst e0
  have H := Hd.start w0
  refine CC.of (N := 15) Try.func16 rfl rfl rfl ?_
  refine WC.seq ?_
  refine WC.region ?_
  refine l_st rfl (s_box (by conv => lhs; whnf) H fun b2 w H => ?_)
  refine l_st rfl (s_box (by conv => lhs; whnf) H fun b3 w H => ?_)
  refine l_rd rfl rfl (x_assign ev_c) ?_
  refine WL.nil ?_
  refine WC.seq ?_
  refine WC.region ?_
  refine l_rd rfl rfl (x_loadF (vs := [_, _, _, _, _]) Try.underlying33 rfl ty33 rfl rfl (H.cellsL 1 rfl rfl)) ?_
  refine l_rd rfl rfl (x_loadF (vs := [_, _, _, _, _]) Try.underlying33 rfl ty33 rfl rfl (H.cellsL 0 rfl rfl)) ?_
  refine l_st rfl (s_callL cal23 (c23 _ (hx.old (H.old 2 rfl)) (hy.old (H.old 2 rfl))) ?_)
  rintro r w ⟨hr1, e1⟩
  have H := H.ext e1
  obtain rfl : r = .bool true := hr1.trans (by rw [decide_eq_true rfl])
  refine l_rd rfl rfl (x_move (by conv => lhs; whnf)) ?_
  refine l_gy (wantY rfl rfl rfl) rfl rfl (x_fieldAddr Try.underlying33 rfl rfl ty31 (by decide) rfl) ?_
  refine l_gy (wantY rfl rfl rfl) rfl rfl (x_load Try.underlying31 rfl rfl (H.cellL 1 rfl rfl)) ?_
  refine l_gy (wantY rfl rfl rfl) rfl rfl (x_fieldAddr Try.underlying33 rfl rfl ty31 (by decide) rfl) ?_
  refine l_gy (wantY rfl rfl rfl) rfl rfl (x_load Try.underlying31 rfl rfl (H.cellL 0 rfl rfl)) ?_
  refine l_gst (wantY rfl rfl rfl) rfl (s_callL cal38 (hpv ▸ c38 _ ((H.old 2 rfl).rdS hO) hcap ((H.old 2 rfl).rdS hy.2.2.2.2) hb) ?_)
  rintro r w ⟨hr1, e1⟩
  have H := H.ext e1
  obtain rfl : r = .bool true := hr1.trans (rfl)
  refine l_rd rfl rfl (x_pick1 rfl (by conv => lhs; whnf)) ?_
  refine l_rd rfl rfl (x_assign (by conv => lhs; whnf)) ?_
  refine WL.nil ?_
  refine WC.ret ?_
  refine atRet ?_
  exact RetM.one (v := .bool true) rfl rfl ⟨rfl, H.below 2 rfl⟩

end Go.Proofs.Ytahdodijpmkddaa
set_option linter.unusedVariables false
set_option linter.unusedSimpArgs false
namespace Go.Proofs.Ytahdodijpmkddaa
open Go Go.RowKit KE Go.Proofs
theorem cal17 : Cal Try.prog 17 := ⟨_, Try.func17, rfl, by decide⟩
theorem cal25 : Cal Try.prog 25 := ⟨_, Try.func25, rfl, by decide⟩

/-- the props that edges own -/
def ow : List Ed → List Eg → Hp
  | e :: es, x :: xs => star (Sl e.pv 86 4 x.props.length (x.props.flatMap prC)) (ow es xs)
  | _, _ => fun _ => True
theorem ow_step {s : Sy} {w : World} {L : List Hp} {es : List Ed} {xs : List Eg} {k : Nat} {e : Ed} {x : Eg} (he : es[k]? = some e) (hx : xs[k]? = some x) (H : Hd s w (ow (es.drop k) (xs.drop k) :: L)) : Hd s w (Sl e.pv 86 4 x.props.length (x.props.flatMap prC) :: ow (es.drop (k + 1)) (xs.drop (k + 1)) :: L) := by
  obtain ⟨h1, h2⟩ := List.getElem?_eq_some_iff.1 he
  obtain ⟨h3, h4⟩ := List.getElem?_eq_some_iff.1 hx
  rw [List.drop_eq_getElem_cons h1, List.drop_eq_getElem_cons h3, h2, h4] at H
  exact H.unstar
theorem edC_one (e : Ed) (h : oneC e.pv = true) : ∀ u ∈ edC e, oneC u = true := by
  intro u hu
  simp only [edC, List.mem_cons, List.not_mem_nil, or_false] at hu
  rcases hu with rfl | rfl | rfl | rfl | rfl <;> first | rfl | exact h
theorem c11 {s : Sy} {L : List Hp} {a : Option Addr} {n c : Nat} {es : List Ed} {xs : List Eg} (w : World) (H : Hd s w (Sl (.slice a n c) 33 5 n (es.flatMap edC) :: ow es xs :: L)) (hl1 : es.length = n) (hl2 : xs.length = n) (hb : n ≤ 1000) (hb2 : ∀ x ∈ xs, x.props.length ≤ 1000) : CC Try.prog 11 [.slice a n c].toArray w (fun r w' => Hd s w' L) := by
  refine CC.of (N := 35) Try.func11 rfl rfl rfl ?_
  refine WC.seq ?_
  refine WC.seq ?_
  refine WC.region ?_
  refine l_rd rfl rfl (x_assign ev_c) ?_
  refine WL.nil ?_
  refine WC.block ?_
  refine WC.loop (fun ρ ds w => ∃ k : Nat, k ≤ n ∧ ρ 2 = I k ∧ ρ 0 = .slice a n c ∧ ds = [] ∧ Hd s w (Sl (.slice a n c) 33 5 n (es.flatMap edC) :: ow (es.drop k) (xs.drop k) :: L)) (fun ρ w => n - (match ρ 2 with | .int _ k => k.toNat | _ => 0)) (⟨0, Nat.zero_le _, rfl, rfl, rfl, H⟩) ?_
  repeat clear H
  rintro ρ ds w ⟨k, hk, h2, h0, rfl, H⟩
  refine WC.seq ?_
  refine WC.seq ?_
  refine WC.region ?_
  refine l_rd rfl rfl (x_move h2) ?_
  refine l_rd rfl rfl (x_move h0) ?_
  refine l_rd rfl rfl (x_lenSlice Try.underlying28 rfl rfl) ?_
  refine l_rdD rfl rfl (x_lss rfl rfl) (fun h8 => ?_) (fun h8 => ?_)
  ·
    refine WL.nil ?_
    refine WC.cond1 rfl ?_
    refine WC.skip ?_
    refine WC.seq ?_
    refine WC.block ?_
    obtain ⟨e, hek⟩ := lt_get (show k < es.length by omega)
    obtain ⟨x, hxk⟩ := lt_get (show k < xs.length by omega)
    obtain ⟨b1, o1, rfl, hc1⟩ := (show RdS w _ 5 edC es from by unfold RdS; rw [hl1]; exact H.sl 0 rfl).el edC_len hek
    have H := ow_step hek hxk H.swp
    obtain ⟨ap, cp, hpv⟩ := (H.sl 0 rfl).shape
    rw [hpv] at H
    have hcp := (H.cap 0 rfl).1
    have hbx := hb2 x (List.mem_of_getElem? hxk)
    obtain ⟨cs2, H⟩ := Hd.grow (m := min cp (x.props.length + 12)) H (by omega) (by omega) (by omega)
    refine WC.region ?_
    refine l_rd rfl rfl (x_move h0) ?_
    refine l_rd rfl rfl (x_move h2) ?_
    refine l_rd rfl rfl (x_indexAddr Try.underlying28 ty33 rfl rfl (by omega) (by omega)) ?_
    refine l_rd rfl rfl (x_loadF (vs := [_, _, _, _, _]) Try.underlying33 rfl ty33 rfl rfl (sub_row 0 hc1 rfl)) ?_
    refine l_st rfl (s_callL cal17 (c17 _ hpv rfl hbx H) ?_)
    rintro _ w H
    refine WL.nil ?_
    refine WC.region ?_
    refine l_rd rfl rfl (x_move h2) ?_
    refine l_rd rfl rfl (x_add rfl rfl (by omega) (by omega)) ?_
    refine l_rd rfl rfl (x_assign (by conv => lhs; whnf)) ?_
    refine WL.nil ?_
    refine WC.again (⟨k + 1, by omega, rfl, h0, rfl, H.swp⟩) (by show _ - _ < _ - _; rw [h2]; show n - ((k : Int) + 1).toNat < n - (k : Int).toNat; omega)
  ·
    refine WL.nil ?_
    refine WC.cond0 rfl ?_
    refine WC.exit ?_
    refine WC.seq ?_
    refine WC.region ?_
    refine l_rd rfl rfl (x_move h0) ?_
    refine l_rd rfl rfl (x_move h0) ?_
    refine l_rd rfl rfl (x_cap Try.underlying28 rfl rfl) ?_
    refine l_rd rfl rfl (x_move h0) ?_
    refine l_rd rfl rfl (x_lenSlice Try.underlying28 rfl rfl) ?_
    refine l_rd rfl rfl (x_add rfl rfl (by omega) (by omega)) ?_
    refine l_rd rfl rfl (x_min rfl rfl) ?_
    refine l_rd rfl rfl (x_sliceTo Try.underlying28 ty33 rfl rfl (by omega) (by omega)) ?_
    refine l_rd rfl rfl (x_assign (by conv => lhs; whnf)) ?_
    refine WL.nil ?_
    refine WC.seq ?_
    have hcc := (H.cap 0 rfl).1
    obtain ⟨cs3, H⟩ := Hd.grow (m := min c (n + 12)) (Hd.dropAt [_] H) (by omega) (by omega) (by omega)
    refine WC.region ?_
    refine l_rd rfl rfl (x_assign ev_c) ?_
    refine WL.nil ?_
    refine WC.block ?_
    refine WC.loop (fun ρ ds w => ∃ (k : Nat) (cs : List Value), k ≤ min c (n + 12) ∧ ρ 4 = I k ∧ ρ 3 = .slice a (min c (n + 12)) c ∧ ds = [] ∧ Hd s w (Sl (.slice a (min c (n + 12)) c) 33 5 (min c (n + 12)) cs :: L)) (fun ρ w => min c (n + 12) - (match ρ 4 with | .int _ k => k.toNat | _ => 0)) (⟨0, cs3, Nat.zero_le _, rfl, by show Value.slice a (Int.toNat (if ((n:Int) + 12) < (c:Int) then ((n:Int) + 12) else (c : Int))) c = _; congr 1; split <;> omega, rfl, H⟩) ?_
    repeat clear H
    rintro ρ ds w ⟨k, cs1, hk, h4, h3, rfl, H⟩
    refine WC.seq ?_
    refine WC.seq ?_
    refine WC.region ?_
    refine l_rd rfl rfl (x_move h4) ?_
    refine l_rd rfl rfl (x_move h3) ?_
    refine l_rd rfl rfl (x_lenSlice Try.underlying28 rfl rfl) ?_
    refine l_rdD rfl rfl (x_lss rfl rfl) (fun h27 => ?_) (fun h27 => ?_)
    ·
      refine WL.nil ?_
      refine WC.cond1 rfl ?_
      refine WC.skip ?_
      refine WC.seq ?_
      refine WC.block ?_
      obtain ⟨b1, o1, c1, hv1, _⟩ := (H.sl 0 rfl).at_ (show k < min c (n + 12) by omega)
      cases hv1
      refine WC.region ?_
      refine l_rd rfl rfl (x_move h3) ?_
      refine l_rd rfl rfl (x_move h4) ?_
      refine l_rd rfl rfl (x_move h4) ?_
      refine l_st rfl (s_callL cal25 (c25 _ (by omega) (by omega)) ?_)
      rintro _ w ⟨rfl, e1⟩
      have H := H.ext e1
      refine l_rd rfl rfl (x_indexAddr Try.underlying28 ty33 rfl rfl (by omega) (by omega)) ?_
      refine l_no (s_storeRow (b := b1) (o := o1) (c := c) (k := k) 0 rfl rfl (show k < min c (n + 12) by omega) ty33 rfl rfl rfl (edC_one _ rfl) H (fun w H => ?_))
      refine WL.nil ?_
      refine WC.region ?_
      refine l_rd rfl rfl (x_move h4) ?_
      refine l_rd rfl rfl (x_add rfl rfl (by omega) (by omega)) ?_
      refine l_rd rfl rfl (x_assign (by conv => lhs; whnf)) ?_
      refine WL.nil ?_
      refine WC.again (⟨k + 1, _, by omega, rfl, h3, rfl, H⟩) (by show _ - _ < _ - _; rw [h4]; show min c (n + 12) - ((k : Int) + 1).toNat < min c (n + 12) - (k : Int).toNat; omega)
    ·
      refine WL.nil ?_
      refine WC.cond0 rfl ?_
      refine WC.exit ?_
      refine atEnd ?_
      exact RetM.none' rfl (H.drop)

end Go.Proofs.Ytahdodijpmkddaa
set_option linter.unusedVariables false
set_option linter.unusedSimpArgs false
namespace Go.Proofs.Ytahdodijpmkddaa
open Go Go.RowKit KE Go.Proofs
theorem cal37 : Cal Try.prog 37 := ⟨_, Try.func37, rfl, by decide⟩

def EdLs (w : World) (v : Value) (es : List Ed) (xs : List Eg) : Prop := RdS w v 5 edC es ∧ es.length = xs.length ∧ ∀ (i : Nat) (e : Ed) (x : Eg), es[i]? = some e → xs[i]? = some x → EdR w e x
/-- the same edges, but for where the props lie -/
def EdFs (es : List Ed) (xs : List Eg) : Prop := es.length = xs.length ∧ ∀ (i : Nat) (e : Ed) (x : Eg), es[i]? = some e → xs[i]? = some x → e.src = x.src ∧ e.dst = x.dst ∧ e.lab = x.lab ∧ e.time = x.time
theorem take_snoc {α : Type} {xs : List α} {k : Nat} {x : α} (h : xs[k]? = some x) : xs.take (k + 1) = xs.take k ++ [x] := by
  obtain ⟨hk, e⟩ := List.getElem?_eq_some_iff.1 h
  rw [List.take_succ_eq_append_getElem hk, e]
theorem EdFs.snoc {w : World} {es2 : List Ed} {xs : List Eg} {k : Nat} {x : Eg} {e : Ed} {pv : Value} (h : EdFs es2 (xs.take k)) (hx : xs[k]? = some x) (he : EdR w e x) : EdFs (es2 ++ [{ e with pv := pv }]) (xs.take (k + 1)) := by
  rw [take_snoc hx]
  refine ⟨by simp [h.1], fun i f y hf hy => ?_⟩
  rcases Nat.lt_or_ge i es2.length with hi | hi
  · rw [List.getElem?_append_left hi] at hf
    rw [List.getElem?_append_left (by rw [← h.1]; exact hi)] at hy
    exact h.2 i f y hf hy
  · rw [List.getElem?_append_right hi] at hf
    rw [List.getElem?_append_right (by rw [← h.1]; exact hi), ← h.1] at hy
    have h0 : i - es2.length = 0 := by have := (List.getElem?_eq_some_iff.1 hf).1; simp at this; omega
    rw [h0] at hf hy
    simp at hf hy
    subst hf hy
    exact ⟨he.1, he.2.1, he.2.2.1, he.2.2.2.1⟩
theorem ow_nil {s : Sy} {w : World} {L : List Hp} (H : Hd s w L) : Hd s w (ow [] [] :: L) := (Hd.pure trivial H).weak fun h _ => trivial
theorem ow_app {e : Ed} {x : Eg} : ∀ {es : List Ed} {xs : List Eg}, es.length = xs.length → ∀ h, star (Sl e.pv 86 4 x.props.length (x.props.flatMap prC)) (ow es xs) h → ow (es ++ [e]) (xs ++ [x]) h
  | [], [], _, h, k => star_mono k (fun _ h => h) (fun _ _ => trivial)
  | f :: es, y :: xs, hl, h, k => star_mono (star_swap k) (fun _ h => h) (fun _ h => ow_app (by simpa using hl) _ h)
theorem ow_snoc {s : Sy} {w : World} {L : List Hp} {es : List Ed} {xs : List Eg} {e : Ed} {x : Eg} {A B C : Hp} (hl : es.length = xs.length) (H : Hd s w (A :: B :: Sl e.pv 86 4 x.props.length (x.props.flatMap prC) :: C :: ow es xs :: L)) : Hd s w (C :: ow (es ++ [e]) (xs ++ [x]) :: L) := by
  have h1 := Hd.arrT [_, _, _, _, _] [2, 4, 3] (by decide) rfl H
  exact ((Hd.star h1).weak fun h k => ow_app hl h k).swp
theorem c48 {s : Sy} {L : List Hp} {v : Value} {es : List Ed} {xs : List Eg} (w : World) (H : Hd s w L) (hr : ∀ w (A : List Hp), Hd s w (A ++ L) → EdLs w v es xs) (hb : xs.length ≤ 1000) (hb2 : ∀ x ∈ xs, x.props.length ≤ 1000) : CC Try.prog 48 [v].toArray w (fun r w' => ∃ es2, EdFs es2 xs ∧ Hd s w' (Sl r 33 5 xs.length (es2.flatMap edC) :: ow es2 xs :: L)) := by
  have hrs := hr w [] H
  obtain ⟨a, c, hv⟩ := hrs.1.shape
  rw [hrs.2.1] at hv
  subst hv
  clear hrs
  refine CC.of (N := 22) Try.func48 rfl rfl rfl ?_
  refine WC.seq ?_
  refine WC.region ?_
  refine l_rd rfl rfl (x_assign ev_c) ?_
  refine WL.nil ?_
  refine WC.seq ?_
  refine WC.region ?_
  refine l_rd rfl rfl (x_assign ev_c) ?_
  refine WL.nil ?_
  refine WC.seq ?_
  refine WC.seq ?_
  have H := Hd.nil (ow_nil H) 33 5
  refine WC.region ?_
  refine l_rd rfl rfl (x_assign ev_c) ?_
  refine WL.nil ?_
  refine WC.block ?_
  refine WC.loop (fun ρ ds w => ∃ (k : Nat) (ov : Value) (es2 : List Ed), k ≤ xs.length ∧ EdFs es2 (xs.take k) ∧ ρ 4 = I k ∧ ρ 3 = ov ∧ ρ 0 = .slice a xs.length c ∧ ds = [] ∧ Hd s w (Sl ov 33 5 k (es2.flatMap edC) :: ow es2 (xs.take k) :: L)) (fun ρ w => xs.length - (match ρ 4 with | .int _ k => k.toNat | _ => 0)) (⟨0, _, [], Nat.zero_le _, ⟨rfl, fun i e x h => by simp at h⟩, rfl, (by conv => lhs; whnf), rfl, rfl, H⟩) ?_
  repeat clear H
  rintro ρ ds w ⟨k, ov, es2, hk, hes, h4, h3, h0, rfl, H⟩
  refine WC.seq ?_
  refine WC.seq ?_
  refine WC.region ?_
  refine l_rd rfl rfl (x_move h4) ?_
  refine l_rd rfl rfl (x_move h0) ?_
  refine l_rd rfl rfl (x_lenSlice Try.underlying28 rfl rfl) ?_
  refine l_rdD rfl rfl (x_lss rfl rfl) (fun h9 => ?_) (fun h9 => ?_)
  ·
    refine WL.nil ?_
    refine WC.cond1 rfl ?_
    refine WC.skip ?_
    refine WC.seq ?_
    refine WC.block ?_
    refine WC.seq ?_
    obtain ⟨x, hxk⟩ := lt_get (show k < xs.length by omega)
    have hrr := hr _ [_, _] H
    obtain ⟨e, hek⟩ := lt_get (show k < es.length by rw [hrr.2.1]; omega)
    obtain ⟨b1, o1, rfl, hc1⟩ := hrr.1.el edC_len hek
    have he4 := hrr.2.2 k e x hek hxk
    refine WC.region ?_
    refine l_rd rfl rfl (x_move h0) ?_
    refine l_rd rfl rfl (x_move h4) ?_
    refine l_rd rfl rfl (x_indexAddr Try.underlying28 ty33 rfl rfl (by omega) (by omega)) ?_
    refine l_rd rfl rfl (x_loadF (vs := [_, _, _, _, _]) Try.underlying33 rfl ty33 rfl rfl (sub_row 0 hc1 rfl)) ?_
    refine l_st rfl (s_callL cal37 (c37 (e := e) (xs := x.props) _ H (fun w A h => ((hr w (A ++ [_, _]) (by rw [List.append_assoc]; exact h)).2.2 k e x hek hxk).2.2.2.2) (hb2 x (List.mem_of_getElem? hxk))) ?_)
    rintro _ w ⟨pv, rfl, H⟩
    obtain ⟨ap, cp, rfl⟩ := (H.sl 0 rfl).shape
    refine l_st rfl (s_alloc ty33 H fun b5 w H => ?_)
    refine l_no (s_stA 0 rfl ty33 rfl (by conv => lhs; whnf) rfl rfl rfl H fun w H => ?_)
    refine WL.nil ?_
    refine WC.region ?_
    refine l_rd rfl rfl (x_move h3) ?_
    refine l_rd rfl rfl (x_loadF (vs := [_, _, _, _, _]) Try.underlying33 rfl ty33 rfl rfl (H.cellsL 0 rfl rfl)) ?_
    refine l_st rfl (s_build1A Try.underlying28 ty33 rfl (by decide) (by decide) (by conv => lhs; whnf) rfl H fun b19 w H => ?_)
    refine l_st rfl (s_append Try.underlying28 ty33 rfl (by decide) (by decide) rfl 3 rfl rfl rfl (H.sl 0 rfl) (edC_one { e with pv := _ } rfl) (by omega) H fun v20 w H => ?_)
    obtain ⟨a20, c20, rfl⟩ := (H.sl 3 rfl).shape
    refine l_rd rfl rfl (x_assign (by conv => lhs; whnf)) ?_
    refine WL.nil ?_
    refine WC.region ?_
    refine l_rd rfl rfl (x_move h4) ?_
    refine l_rd rfl rfl (x_add rfl rfl (by omega) (by omega)) ?_
    refine l_rd rfl rfl (x_assign (by conv => lhs; whnf)) ?_
    refine WL.nil ?_
    refine WC.again (⟨k + 1, _, es2 ++ [{ e with pv := _ }], by omega, hes.snoc hxk he4, rfl, (by conv => lhs; whnf), h0, rfl, by rw [take_snoc hxk, List.flatMap_append]; exact ow_snoc hes.1 H⟩) (by show _ - _ < _ - _; rw [h4]; show xs.length - ((k : Int) + 1).toNat < xs.length - (k : Int).toNat; omega)
  ·
    refine WL.nil ?_
    refine WC.cond0 rfl ?_
    refine WC.exit ?_
    refine WC.seq ?_
    have hk2 : k = xs.length := by omega
    subst hk2
    rw [List.take_length] at H hes
    obtain ⟨ao, co, rfl⟩ := (H.sl 0 rfl).shape
    refine WC.region ?_
    refine l_rd rfl rfl (x_move h3) ?_
    refine l_rd rfl rfl (x_assign (by conv => lhs; whnf)) ?_
    refine WL.nil ?_
    refine WC.ret ?_
    refine atRet ?_
    exact RetM.one rfl (by (conv => lhs; whnf); try rfl) (⟨es2, hes, H⟩)

end Go.Proofs.Ytahdodijpmkddaa
set_option linter.unusedVariables false
set_option linter.unusedSimpArgs false
namespace Go.Proofs.Ytahdodijpmkddaa
open Go Go.RowKit KE Go.Proofs
theorem cal80 : Cal Try.prog 80 := ⟨_, Try.func80, rfl, by decide⟩

theorem HeapR.le {w : World} {h : Nat} {xs : List (Int × Int)} (hr : HeapR w h xs) : xs.length ≤ 140737488355328 := by
  obtain ⟨v, f, h1, h2⟩ := hr; exact h2.le
def riseF (xs : List (Int × Int)) (k : Nat) : List (Int × Int) :=
  if h : 0 < k ∧ ordI (xs.getD k (0, 0)) (xs.getD ((k - 1) / 2) (0, 0)) < 0 then riseF ((xs.set k (xs.getD ((k - 1) / 2) (0, 0))).set ((k - 1) / 2) (xs.getD k (0, 0))) ((k - 1) / 2) else xs
termination_by k
decreasing_by omega
theorem getD_at {xs : List (Int × Int)} {k : Nat} {p : Int × Int} (h : xs[k]? = some p) : xs.getD k (0, 0) = p := by rw [List.getD_eq_getElem?_getD, h]; rfl
theorem rise_zero {xs : List (Int × Int)} {k : Nat} (h : k = 0) : riseF xs k = xs := by
  rw [riseF, dif_neg (fun q => by omega)]
theorem rise_yes {xs : List (Int × Int)} {k u : Nat} {p q : Int × Int} (h0 : 0 < k) (hu : u = (k - 1) / 2) (hk : xs[k]? = some p) (huk : xs[u]? = some q) (ho : ordI p q < 0) : riseF xs k = riseF ((xs.set k q).set u p) u := by
  subst hu
  rw [riseF, dif_pos ⟨h0, by rw [getD_at hk, getD_at huk]; exact ho⟩, getD_at hk, getD_at huk]
theorem rise_no {xs : List (Int × Int)} {k u : Nat} {p q : Int × Int} (hu : u = (k - 1) / 2) (hk : xs[k]? = some p) (huk : xs[u]? = some q) (ho : ¬ ordI p q < 0) : riseF xs k = xs := by
  subst hu
  rw [riseF, dif_neg (fun hh => ho (by have := hh.2; rw [getD_at hk, getD_at huk] at this; exact this))]
theorem c59 {s : Sy} {L : List Hp} {h k : Nat} {xs : List (Int × Int)} (w : World) (H : Hd s w (HeapP h xs :: L)) (hk : k < xs.length) : CC Try.prog 59 [.pointer (some ⟨h, 0, none⟩), I k].toArray w (fun r w' => Hd s w' (HeapP h (riseF xs k) :: L)) := by
  refine CC.of (N := 53) Try.func59 rfl rfl rfl ?_
  refine WC.block ?_
  refine WC.loop (fun ρ ds w => ∃ (j : Nat) (ys : List (Int × Int)), j < ys.length ∧ riseF ys j = riseF xs k ∧ ys.length ≤ 140737488355328 ∧ ρ 1 = I j ∧ ρ 0 = .pointer (some ⟨h, 0, none⟩) ∧ ds = [] ∧ Hd s w (HeapP h ys :: L)) (fun ρ w => (match ρ 1 with | .int _ k => k.toNat | _ => 0)) (⟨k, xs, hk, rfl, (HeapP.rd H 0 rfl).le, rfl, rfl, rfl, H⟩) ?_
  repeat clear H
  rintro ρ ds w ⟨j, ys, hj, he, hle, h1, h0, rfl, H⟩
  refine WC.seq ?_
  refine WC.seq ?_
  refine WC.region ?_
  refine l_rd rfl rfl (x_move h1) ?_
  refine l_rdD rfl rfl (x_gtr rfl rfl) (fun h6 => ?_) (fun h6 => ?_)
  ·
    refine WL.nil ?_
    refine WC.cond1 rfl ?_
    refine WC.skip ?_
    refine WC.block ?_
    refine WC.seq ?_
    obtain ⟨v, H⟩ := HeapP.opn H
    obtain ⟨a, c, rfl⟩ := (H.sl 1 rfl).shape
    refine WC.region ?_
    refine l_rd rfl rfl (x_move h1) ?_
    refine l_rd rfl rfl (x_sub rfl rfl (by omega) (by omega)) ?_
    refine l_rd rfl rfl (x_quo rfl rfl (by omega) (by omega) (by omega)) ?_
    refine l_rd rfl rfl (x_assign (by conv => lhs; whnf)) ?_
    refine WL.nil ?_
    refine WC.seq ?_
    refine WC.seq ?_
    obtain ⟨u, hu⟩ : ∃ u : Nat, (u : Int) = ((j : Int) - 1) / 2 := ⟨(j - 1) / 2, by omega⟩
    rw [← hu]
    obtain ⟨p, hjk⟩ := lt_get (show j < ys.length by omega)
    obtain ⟨q, huk⟩ := lt_get (show u < ys.length by omega)
    obtain ⟨b1, o1, rfl, -⟩ := (show RdS w _ 2 itC ys from H.sl 1 rfl).el itC_len hjk
    refine WC.draw mixed [14] [[], [0], [0, 1], [0, 1, 2], [], [0, 1, 2, 3, 4], [0, 1, 2, 3, 4, 5], [], [7], [7, 8], [7, 8, 9], [], [7, 8, 9, 10, 11], [7, 8, 9, 10, 11, 12], [0, 1, 2, 3, 4, 5, 6, 7, 8, 9, 10, 11, 12, 13], [0, 1, 2, 3, 4, 5, 6, 7, 8, 9, 10, 11, 12, 13, 14]] [0, 1, 2, 3, 4, 5, 6, 7, 8, 9, 10, 11, 12, 13, 14, 15] (by kernel_rfl) ?_
    have H := H.drew
    refine k_rd rfl rfl (RS.of rfl rfl (x_move h0)) ?_
    refine k_rd rfl rfl (RS.of rfl rfl (x_nilCheck rfl)) ?_
    refine k_rd rfl rfl (RS.of rfl rfl (x_fieldAddr Try.underlying78 rfl rfl ty76 (by decide) rfl)) ?_
    refine k_rd rfl rfl (RS.of rfl rfl (x_load Try.underlying76 rfl rfl (H.cellL 0 rfl rfl))) ?_
    refine k_rd rfl rfl (RS.of rfl rfl (x_move h1)) ?_
    refine k_rd rfl rfl (RS.of rfl rfl (x_indexAddr Try.underlying76 ty69 rfl rfl (by omega) (by omega))) ?_
    refine k_rd rfl rfl (RS.of rfl rfl (x_loadF (vs := [_, _]) Try.underlying69 rfl ty69 rfl rfl (sub_row 0 (RdS.at itC_len (show RdS _ _ 2 itC ys from H.sl 1 rfl) hjk) rfl))) ?_
    refine k_rd rfl rfl (RS.of rfl rfl (x_move h0)) ?_
    refine k_rd rfl rfl (RS.of rfl rfl (x_nilCheck rfl)) ?_
    refine k_rd rfl rfl (RS.of rfl rfl (x_fieldAddr Try.underlying78 rfl rfl ty76 (by decide) rfl)) ?_
    refine k_rd rfl rfl (RS.of rfl rfl (x_load Try.underlying76 rfl rfl (H.cellL 0 rfl rfl))) ?_
    refine k_rd rfl rfl (RS.of rfl rfl (x_move (by conv => lhs; whnf))) ?_
    refine k_rd rfl rfl (RS.of rfl rfl (x_indexAddr Try.underlying76 ty69 rfl rfl (by omega) (by omega))) ?_
    refine k_rd rfl rfl (RS.of rfl rfl (x_loadF (vs := [_, _]) Try.underlying69 rfl ty69 rfl rfl (sub_row 0 (RdS.at itC_len (show RdS _ _ 2 itC ys from H.sl 1 rfl) huk) rfl))) ?_
    refine k_st rfl rfl rfl (s_callL cal80 (c80 (p := p) (q := q) _) ?_)
    rintro _ w ⟨rfl, e1⟩
    have H := H.ext e1
    refine ⟨⟨trivial, ⟨trivial, ⟨trivial, ⟨trivial, ⟨trivial, ⟨trivial, ⟨trivial, ⟨trivial, ⟨trivial, ⟨trivial, ⟨trivial, ⟨trivial, ⟨trivial, ⟨trivial, trivial⟩⟩⟩⟩⟩⟩⟩⟩⟩⟩⟩⟩⟩⟩, ?_⟩
    refine k_rdD rfl rfl rfl rfl (x_geq rfl rfl) (fun h25 => ?_) (fun h25 => ?_)
    ·
      show _
      refine WC.cond1 rfl ?_
      refine WC.exit ?_
      refine atEnd ?_
      exact RetM.none' rfl (by rw [← he, rise_no (by omega) hjk huk (by omega)]; exact HeapP.mk H)
    ·
      show _
      refine WC.cond0 rfl ?_
      refine WC.skip ?_
      refine WC.seq ?_
      refine WC.draw mixed [25, 27] [[], [0], [0, 1], [0, 1, 2], [], [], [5], [5, 6], [5, 6, 7], [], [], [10], [10, 11], [10, 11, 12], [], [10, 11, 12, 13, 14], [10, 11, 12, 13, 14, 15], [], [17], [17, 18], [17, 18, 19], [], [17, 18, 19, 20, 21], [17, 18, 19, 20, 21, 22], [0, 1, 2, 3, 4, 5, 6, 7, 8, 10, 11, 12, 13, 14, 15, 16, 17, 18, 19, 20, 21, 22, 23], [0, 1, 2, 3, 4, 5, 6, 7, 8, 10, 11, 12, 13, 14, 15, 16, 17, 18, 19, 20, 21, 22, 23, 24], [0, 1, 2, 3, 4, 5, 6, 7, 8, 9, 10, 11, 12, 13, 14, 15, 16, 17, 18, 19, 20, 21, 22, 23, 24, 25], [0, 1, 2, 3, 4, 5, 6, 7, 8, 9, 10, 11, 12, 13, 14, 15, 16, 17, 18, 19, 20, 21, 22, 23, 24, 25, 26]] [0, 1, 2, 3, 4, 5, 6, 7, 8, 9, 10, 11, 12, 13, 14, 15, 16, 17, 18, 19, 20, 21, 22, 23, 24, 25, 26, 27] (by kernel_rfl) ?_
      have H := H.drew
      refine k_rd rfl rfl (RS.of rfl rfl (x_move h0)) ?_
      refine k_rd rfl rfl (RS.of rfl rfl (x_nilCheck rfl)) ?_
      refine k_rd rfl rfl (RS.of rfl rfl (x_fieldAddr Try.underlying78 rfl rfl ty76 (by decide) rfl)) ?_
      refine k_rd rfl rfl (RS.of rfl rfl (x_load Try.underlying76 rfl rfl (H.cellL 0 rfl rfl))) ?_
      refine k_rd rfl rfl (RS.of rfl rfl (x_move h1)) ?_
      refine k_rd rfl rfl (RS.of rfl rfl (x_move h0)) ?_
      refine k_rd rfl rfl (RS.of rfl rfl (x_nilCheck rfl)) ?_
      refine k_rd rfl rfl (RS.of rfl rfl (x_fieldAddr Try.underlying78 rfl rfl ty76 (by decide) rfl)) ?_
      refine k_rd rfl rfl (RS.of rfl rfl (x_load Try.underlying76 rfl rfl (H.cellL 0 rfl rfl))) ?_
      refine k_rd rfl rfl (RS.of rfl rfl (x_move (by conv => lhs; whnf))) ?_
      refine k_rd rfl rfl (RS.of rfl rfl (x_move h0)) ?_
      refine k_rd rfl rfl (RS.of rfl rfl (x_nilCheck rfl)) ?_
      refine k_rd rfl rfl (RS.of rfl rfl (x_fieldAddr Try.underlying78 rfl rfl ty76 (by decide) rfl)) ?_
      refine k_rd rfl rfl (RS.of rfl rfl (x_load Try.underlying76 rfl rfl (H.cellL 0 rfl rfl))) ?_
      refine k_rd rfl rfl (RS.of rfl rfl (x_move (by conv => lhs; whnf))) ?_
      refine k_rd rfl rfl (RS.of rfl rfl (x_indexAddr Try.underlying76 ty69 rfl rfl (by omega) (by omega))) ?_
      refine k_rd rfl rfl (RS.of rfl rfl (x_loadF (vs := [_, _]) Try.underlying69 rfl ty69 rfl rfl (sub_row 0 (RdS.at itC_len (show RdS _ _ 2 itC ys from H.sl 1 rfl) huk) rfl))) ?_
      refine k_rd rfl rfl (RS.of rfl rfl (x_move h0)) ?_
      refine k_rd rfl rfl (RS.of rfl rfl (x_nilCheck rfl)) ?_
      refine k_rd rfl rfl (RS.of rfl rfl (x_fieldAddr Try.underlying78 rfl rfl ty76 (by decide) rfl)) ?_
      refine k_rd rfl rfl (RS.of rfl rfl (x_load Try.underlying76 rfl rfl (H.cellL 0 rfl rfl))) ?_
      refine k_rd rfl rfl (RS.of rfl rfl (x_move h1)) ?_
      refine k_rd rfl rfl (RS.of rfl rfl (x_indexAddr Try.underlying76 ty69 rfl rfl (by omega) (by omega))) ?_
      refine k_rd rfl rfl (RS.of rfl rfl (x_loadF (vs := [_, _]) Try.underlying69 rfl ty69 rfl rfl (sub_row 0 (RdS.at itC_len (show RdS _ _ 2 itC ys from H.sl 1 rfl) hjk) rfl))) ?_
      refine k_rd rfl rfl (RS.of rfl rfl (x_indexAddr Try.underlying76 ty69 rfl rfl (by omega) (by omega))) ?_
      refine k_no rfl rfl rfl (s_storeRowF (b := b1) (o := o1) (c := c) (k := j) (y := q) 1 itC_len rfl rfl (by omega) (by simp) ty69 rfl (by conv => lhs; whnf) rfl H (fun w H => ⟨⟨trivial, ⟨trivial, ⟨trivial, ⟨trivial, ⟨trivial, ⟨trivial, ⟨trivial, ⟨trivial, ⟨trivial, ⟨trivial, ⟨trivial, ⟨trivial, ⟨trivial, ⟨trivial, ⟨trivial, ⟨RS.of rfl rfl (x_move (by (conv => lhs; whnf); try rfl)), ⟨trivial, ⟨trivial, ⟨trivial, ⟨trivial, ⟨trivial, ⟨trivial, ⟨trivial, ⟨trivial, ⟨trivial, trivial⟩⟩⟩⟩⟩⟩⟩⟩⟩⟩⟩⟩⟩⟩⟩⟩⟩⟩⟩⟩⟩⟩⟩⟩⟩, ?_⟩))
      refine k_rd rfl rfl (RS.of rfl rfl (x_indexAddr Try.underlying76 ty69 rfl rfl (by omega) (by omega))) ?_
      refine k_no rfl rfl rfl (s_storeRowF (b := b1) (o := o1) (c := c) (k := u) (y := p) 1 itC_len rfl rfl (by omega) (by simp) ty69 rfl (by conv => lhs; whnf) rfl H (fun w H => ⟨⟨trivial, ⟨trivial, ⟨trivial, ⟨trivial, ⟨trivial, ⟨trivial, ⟨trivial, ⟨trivial, ⟨trivial, ⟨trivial, ⟨trivial, ⟨trivial, ⟨trivial, ⟨trivial, ⟨trivial, ⟨trivial, ⟨trivial, ⟨trivial, ⟨trivial, ⟨trivial, ⟨trivial, ⟨trivial, ⟨trivial, ⟨trivial, ⟨trivial, ⟨trivial, trivial⟩⟩⟩⟩⟩⟩⟩⟩⟩⟩⟩⟩⟩⟩⟩⟩⟩⟩⟩⟩⟩⟩⟩⟩⟩⟩, ?_⟩))
      show _
      refine WC.region ?_
      refine l_rd rfl rfl (x_move (by conv => lhs; whnf)) ?_
      refine l_rd rfl rfl (x_assign (by conv => lhs; whnf)) ?_
      refine WL.nil ?_
      refine blockE_n ?_
      refine WC.again (⟨u, (ys.set j q).set u p, by simp; omega, by rw [← he]; exact (rise_yes (by omega) (by omega) hjk huk (by omega)).symm, by simpa using hle, rfl, h0, rfl, HeapP.mk (by simpa using H)⟩) (by rw [h1]; show (u : Int).toNat < (j : Int).toNat; omega)
  ·
    refine WL.nil ?_
    refine WC.cond0 rfl ?_
    refine WC.exit ?_
    refine atEnd ?_
    exact RetM.none' rfl (by rw [← he, rise_zero (by omega)]; exact H)

end Go.Proofs.Ytahdodijpmkddaa
set_option linter.unusedVariables false
set_option linter.unusedSimpArgs false
namespace Go.Proofs.Ytahdodijpmkddaa
open Go Go.RowKit KE Go.Proofs
theorem cal59 : Cal Try.prog 59 := ⟨_, Try.func59, rfl, by decide⟩

def pushF (ys : List (Int × Int)) (x : Int × Int) : List (Int × Int) := riseF (ys ++ [x]) ys.length
theorem rise_len (xs : List (Int × Int)) (k : Nat) : (riseF xs k).length = xs.length := by
  induction k using Nat.strongRecOn generalizing xs with
  | ind k ih =>
    rw [riseF]
    split
    · rename_i h
      rw [ih _ (by omega)]; simp
    · rfl
theorem c32 {s : Sy} {L : List Hp} {h : Nat} {v : Value} {xs js : List (Int × Int)} (w : World) (H : Hd s w (HeapP h xs :: L)) (hr : ∀ w (A : List Hp), Hd s w (A ++ L) → RdS w v 2 itC js) (hb : xs.length + js.length ≤ 1000000) : CC Try.prog 32 [.pointer (some ⟨h, 0, none⟩), v].toArray w (fun r w' => r = I 0 ∧ Hd s w' (HeapP h (js.foldl pushF xs) :: L)) := by
  obtain ⟨a, c, rfl⟩ := (hr w [_] H).shape
  refine CC.of (N := 35) Try.func32 rfl rfl rfl ?_
  refine WC.seq ?_
  refine WC.region ?_
  refine l_rd rfl rfl (x_assign ev_c) ?_
  refine WL.nil ?_
  refine WC.seq ?_
  refine WC.seq ?_
  obtain ⟨v0, f0, hB0, hr0⟩ := HeapP.rd H 0 rfl
  refine WC.region ?_
  refine l_rd rfl rfl (x_move (by conv => lhs; whnf)) ?_
  refine l_st rfl (s_callL cal50 (c50 _ hB0) ?_)
  rintro _ w ⟨rfl, e1⟩
  have H := H.ext e1
  refine l_rd rfl rfl (x_not rfl) ?_
  refine WL.nil ?_
  refine WC.cond0 rfl ?_
  refine WC.skip ?_
  refine WC.seq ?_
  refine WC.seq ?_
  refine WC.region ?_
  refine l_rd rfl rfl (x_move (by conv => lhs; whnf)) ?_
  refine l_rd rfl rfl (x_lenSlice Try.underlying76 rfl rfl) ?_
  refine l_rd rfl rfl (x_move ev_c) ?_
  refine WL.nil ?_
  refine WC.block ?_
  refine WC.loop (fun ρ ds w => ∃ (j : Nat) (ys : List (Int × Int)), j ≤ js.length ∧ ys = (js.take j).foldl pushF xs ∧ ys.length = xs.length + j ∧ ρ 12 = I j ∧ ρ 11 = I js.length ∧ ρ 10 = .slice a js.length c ∧ ρ 0 = .pointer (some ⟨h, 0, none⟩) ∧ ds = [] ∧ Hd s w (HeapP h ys :: L)) (fun ρ w => js.length - (match ρ 12 with | .int _ k => k.toNat | _ => 0)) (⟨0, xs, Nat.zero_le _, rfl, rfl, rfl, rfl, rfl, rfl, rfl, H⟩) ?_
  repeat clear H
  rintro ρ ds w ⟨j, ys, hj, hys, hyl, h12, h11, h10, h0, rfl, H⟩
  refine WC.seq ?_
  refine WC.region ?_
  refine l_rdD rfl rfl (x_lss h12 h11) (fun h13 => ?_) (fun h13 => ?_)
  ·
    refine WL.nil ?_
    refine WC.seq ?_
    refine WC.cond1 rfl ?_
    refine WC.skip ?_
    refine WC.seq ?_
    refine WC.block ?_
    refine WC.seq ?_
    obtain ⟨x, hxk⟩ := lt_get (show j < js.length by omega)
    obtain ⟨b1, o1, rfl, hc1⟩ := (hr _ [_] H).el itC_len hxk
    refine WC.region ?_
    refine l_rd rfl rfl (x_indexAddr Try.underlying76 ty69 h10 h12 (by omega) (by omega)) ?_
    refine l_rd rfl rfl (x_loadF (vs := [_, _]) Try.underlying69 rfl ty69 rfl rfl (sub_row 0 hc1 rfl)) ?_
    refine l_st rfl (s_alloc ty69 H fun b6 w H => ?_)
    refine l_no (s_stA 0 rfl ty69 rfl (by conv => lhs; whnf) rfl rfl rfl H fun w H => ?_)
    refine WL.nil ?_
    refine WC.seq ?_
    obtain ⟨vh, H⟩ := HeapP.opn H.swp
    obtain ⟨ah, ch, rfl⟩ := (H.sl 1 rfl).shape
    refine WC.draw mixed [6, 7, 10] [[], [], [1], [1, 2], [1, 2, 3], [], [5], [1, 2, 3, 4, 5, 6], [0, 1, 2, 3, 4, 5, 6, 7], [0, 1, 2, 3, 4, 5, 6, 7, 8], [0, 1, 2, 3, 4, 5, 6, 7, 8, 9]] [0, 1, 2, 3, 4, 5, 6, 7, 8, 9, 10] (by kernel_rfl) ?_
    have H := H.drew
    refine k_rd rfl rfl (RS.of rfl rfl (x_move h0)) ?_
    refine k_rd rfl rfl (RS.of rfl rfl (x_move h0)) ?_
    refine k_rd rfl rfl (RS.of rfl rfl (x_nilCheck rfl)) ?_
    refine k_rd rfl rfl (RS.of rfl rfl (x_fieldAddr Try.underlying78 rfl rfl ty76 (by decide) rfl)) ?_
    refine k_rd rfl rfl (RS.of rfl rfl (x_load Try.underlying76 rfl rfl (H.cellL 0 rfl rfl))) ?_
    refine k_rd rfl rfl (RS.of rfl rfl (x_loadF (vs := [_, _]) Try.underlying69 rfl ty69 rfl rfl (H.cellsL 2 rfl rfl))) ?_
    refine k_st rfl rfl rfl (s_build1A Try.underlying76 ty69 rfl (by decide) (by decide) (by conv => lhs; whnf) rfl H fun b22 w H => ⟨⟨trivial, ⟨RS.of rfl rfl (x_load Try.underlying76 rfl rfl (H.cellL 1 rfl rfl)), ⟨RS.of rfl rfl (x_fieldAddr Try.underlying78 rfl rfl ty76 (by decide) rfl), ⟨RS.of rfl rfl (x_nilCheck rfl), ⟨RS.of rfl rfl (x_move h0), ⟨RS.of rfl rfl (x_move h0), trivial⟩⟩⟩⟩⟩⟩, ?_⟩)
    refine k_st rfl rfl rfl (s_append Try.underlying76 ty69 rfl (by decide) (by decide) rfl 2 rfl rfl rfl (H.sl 0 rfl) (by simp [Value.oneCell']) (by omega) H fun v23 w H => ⟨⟨trivial, ⟨trivial, ⟨trivial, ⟨trivial, ⟨trivial, ⟨RS.of rfl rfl (x_move h0), trivial⟩⟩⟩⟩⟩⟩, ?_⟩)
    obtain ⟨a23, c23, rfl⟩ := (H.sl 2 rfl).shape
    refine k_rd rfl rfl (RS.of rfl rfl (x_nilCheck rfl)) ?_
    refine k_rd rfl rfl (RS.of rfl rfl (x_fieldAddr Try.underlying78 rfl rfl ty76 (by decide) rfl)) ?_
    refine k_no rfl rfl rfl (s_st 1 rfl ty76 rfl (by conv => lhs; whnf) rfl rfl H fun w H => ⟨⟨trivial, ⟨trivial, ⟨trivial, ⟨trivial, ⟨trivial, ⟨trivial, ⟨trivial, ⟨trivial, trivial⟩⟩⟩⟩⟩⟩⟩⟩, ?_⟩)
    show _
    have H := Hd.arrT [_, _, _, _] [1, 2, 3] (by decide) rfl H
    have H := HeapP.mk (xs := ys ++ [x]) (by rw [List.length_append, List.flatMap_append]; exact H)
    obtain ⟨vx, fx, hBx, hrx⟩ := HeapP.rd H 0 rfl
    obtain ⟨ax, cx, rfl⟩ := hrx.shape
    have hq : (((ys ++ [x]).length : Nat) : Int) - 1 = (ys.length : Int) := by rw [List.length_append]; simp
    refine WC.region ?_
    refine l_rd rfl rfl (x_move h0) ?_
    refine l_rd rfl rfl (x_move h0) ?_
    refine l_rd rfl rfl (x_nilCheck rfl) ?_
    refine l_rd rfl rfl (x_fieldAddr Try.underlying78 rfl rfl ty76 (by decide) rfl) ?_
    refine l_rd rfl rfl (x_load Try.underlying76 rfl rfl (cell_ofL hBx rfl)) ?_
    refine l_rd rfl rfl (x_lenSlice Try.underlying76 rfl rfl) ?_
    refine l_rd rfl rfl (x_sub rfl rfl (by omega) (by omega)) ?_
    rw [hq]
    refine l_st rfl (s_callL cal59 (c59 (k := ys.length) _ H (by rw [List.length_append]; simp)) ?_)
    rintro _ w H
    refine WL.nil ?_
    refine WC.region ?_
    refine l_rd rfl rfl (x_add h12 rfl (by omega) (by omega)) ?_
    refine l_rd rfl rfl (x_move (by conv => lhs; whnf)) ?_
    refine WL.nil ?_
    refine WC.again (⟨j + 1, riseF (ys ++ [x]) ys.length, by omega, by rw [take_snoc hxk, List.foldl_append, ← hys]; rfl, by rw [rise_len]; simp; omega, rfl, h11, h10, h0, rfl, Hd.dropAt [_] H⟩) (by show _ - _ < _ - _; rw [h12]; show js.length - ((j : Int) + 1).toNat < js.length - (j : Int).toNat; omega)
  ·
    refine WL.nil ?_
    refine WC.seq ?_
    refine WC.cond0 rfl ?_
    refine WC.exit ?_
    refine WC.seq ?_
    refine WC.region ?_
    refine l_rd rfl rfl (x_assign ev_c) ?_
    refine WL.nil ?_
    refine WC.ret ?_
    refine atRet ?_
    exact RetM.one rfl (by (conv => lhs; whnf); try rfl) (⟨rfl, by rw [hys, List.take_of_length_le (by omega)] at H; exact H⟩)

end Go.Proofs.Ytahdodijpmkddaa
set_option linter.unusedVariables false
set_option linter.unusedSimpArgs false
namespace Go.Proofs.Ytahdodijpmkddaa
open Go Go.RowKit KE Go.Proofs
theorem cal32 : Cal Try.prog 32 := ⟨_, Try.func32, rfl, by decide⟩
theorem c21 {s : Sy} {L : List Hp} (w : World) (H : Hd s w L) : CC Try.prog 21 [.slice none 0 0].toArray w (fun r w' => ∃ h : Nat, r = .pointer (some ⟨h, 0, none⟩) ∧ Hd s w' (HeapP h [] :: L)) := by
  refine CC.of (N := 10) Try.func21 rfl rfl rfl ?_
  refine WC.seq ?_
  refine WC.region ?_
  refine l_rd rfl rfl (x_assign ev_c) ?_
  refine WL.nil ?_
  refine WC.seq ?_
  refine WC.region ?_
  refine l_rd rfl rfl (x_buildL (pl := [(0, 1), (1, 1)]) (cells := [.slice none 0 0, .bool true]) Try.underlying78 ty78 (by kernel_rfl) rfl) ?_
  refine l_st rfl (s_box (by conv => lhs; whnf) H fun b5 w H => ?_)
  refine l_rd rfl rfl (x_assign (by conv => lhs; whnf)) ?_
  refine WL.nil ?_
  refine WC.seq ?_
  have H := HeapP.mk (xs := []) (Hd.swp (Hd.nil H 69 2))
  refine WC.region ?_
  refine l_rd rfl rfl (x_move (by conv => lhs; whnf)) ?_
  refine l_rd rfl rfl (x_move (by conv => lhs; whnf)) ?_
  refine l_st rfl (s_callL cal32 (c32 (js := []) _ H (fun w A h => ⟨⟨rfl, by decide⟩, .inl ⟨rfl, _, _, rfl⟩⟩) (by decide)) ?_)
  rintro _ w ⟨rfl, H⟩
  refine WL.nil ?_
  refine WC.seq ?_
  refine WC.region ?_
  refine l_rd rfl rfl (x_move (by conv => lhs; whnf)) ?_
  refine l_rd rfl rfl (x_assign (by conv => lhs; whnf)) ?_
  refine WL.nil ?_
  refine WC.ret ?_
  refine atRet ?_
  exact RetM.one rfl (by (conv => lhs; whnf); try rfl) (⟨b5, rfl, H⟩)

end Go.Proofs.Ytahdodijpmkddaa
set_option linter.unusedVariables false
set_option linter.unusedSimpArgs false
namespace Go.Proofs.Ytahdodijpmkddaa
open Go Go.RowKit KE Go.Proofs
theorem ty53 : Ty Try.prog 53 (.agg #[(.pointer none)]) 1 8 := Ty.of (by kernel_rfl)
theorem ty54 : Ty Try.prog 54 (.map none) 1 8 := Ty.of (by kernel_rfl)
theorem ty56 : Ty Try.prog 56 (.agg #[(.pointer none), (.map none)]) 2 16 := Ty.of (by kernel_rfl)
theorem cal21 : Cal Try.prog 21 := ⟨_, Try.func21, rfl, by decide⟩

noncomputable def TI : KT Try.prog 3 Int := ktI Try.prog 3 .i64 Try.underlying3
theorem c26 {B M : Nat} {v : Value} {f : Nat × Nat} (w : World) (hB : w.heap[B]? = some (.cells #[v, .map (some M)] 56 f)) : CC Try.prog 26 [.pointer (some ⟨B, 0, none⟩)].toArray w (fun r w' => r = .bool true ∧ Ext w w') := by
  obtain ⟨w0, e0⟩ : ∃ w0, w0 = w := ⟨w, rfl⟩
  subst e0
  have H := Hd.start w0
  refine CC.of (N := 12) Try.func26 rfl rfl rfl ?_
  refine WC.seq ?_
  refine WC.region ?_
  refine l_rd rfl rfl (x_assign ev_c) ?_
  refine WL.nil ?_
  refine WC.seq ?_
  refine WC.region ?_
  refine l_rd rfl rfl (x_move (by conv => lhs; whnf)) ?_
  refine l_rd rfl rfl (x_neqPN Try.underlying25 rfl) ?_
  refine l_rd rfl rfl (x_move (by conv => lhs; whnf)) ?_
  refine l_gy (wantY rfl rfl rfl) rfl rfl (x_move (by conv => lhs; whnf)) ?_
  refine l_gy (wantY rfl rfl rfl) rfl rfl (x_nilCheck rfl) ?_
  refine l_gy (wantY rfl rfl rfl) rfl rfl (x_fieldAddr Try.underlying56 rfl rfl ty54 (by decide) rfl) ?_
  refine l_gy (wantY rfl rfl rfl) rfl rfl (x_load Try.underlying54 rfl rfl (cell_ofL ((H.old 0 rfl) _ _ hB) rfl)) ?_
  refine l_gy (wantY rfl rfl rfl) rfl rfl (x_neqMN Try.underlying54 rfl) ?_
  refine l_rd rfl rfl (x_pick1 rfl (by conv => lhs; whnf)) ?_
  refine l_rd rfl rfl (x_assign (by conv => lhs; whnf)) ?_
  refine WL.nil ?_
  refine WC.ret ?_
  refine atRet ?_
  exact RetM.one (v := .bool true) rfl rfl ⟨rfl, H.below 0 rfl⟩

theorem c6 {s : Sy} {L : List Hp} (w : World) (H : Hd s w L) : CC Try.prog 6 [].toArray w (fun r w' => ∃ B h M : Nat, r = .pointer (some ⟨B, 0, none⟩) ∧ Hd s w' (pt B (.cells #[.pointer (some ⟨h, 0, none⟩), .map (some M)] 56 (0, 0)) :: Mp TI M [] :: HeapP h [] :: L)) := by
  refine CC.of (N := 6) Try.func6 rfl rfl rfl ?_
  refine WC.seq ?_
  refine WC.region ?_
  refine l_rd rfl rfl (x_assign ev_c) ?_
  refine WL.nil ?_
  refine WC.seq ?_
  refine WC.region ?_
  refine l_st rfl (s_callL cal21 (c21 _ H) ?_)
  rintro _ w ⟨h, rfl, H⟩
  refine l_rd rfl rfl (x_buildL (pl := [(0, 1)]) (cells := [.pointer (some ⟨h, 0, none⟩)]) Try.underlying53 ty53 (by kernel_rfl) rfl) ?_
  refine l_st rfl (s_makeMap H fun m3 w H => ?_)
  refine l_rd rfl rfl (x_buildL (pl := [(0, 1), (1, 1)]) (cells := [.pointer (some ⟨h, 0, none⟩), .map (some m3)]) Try.underlying56 ty56 (by kernel_rfl) rfl) ?_
  refine l_st rfl (s_box (by conv => lhs; whnf) H fun b5 w H => ?_)
  refine l_rd rfl rfl (x_assign (by conv => lhs; whnf)) ?_
  refine WL.nil ?_
  refine WC.ret ?_
  refine atRet ?_
  exact RetM.one rfl (by (conv => lhs; whnf); try rfl) (⟨b5, h, m3, rfl, ((H.swp).weak (Mp.made TI)).swp⟩)

end Go.Proofs.Ytahdodijpmkddaa
set_option linter.unusedVariables false
set_option linter.unusedSimpArgs false
namespace Go.Proofs.Ytahdodijpmkddaa
open Go Go.RowKit KE Go.Proofs
theorem cal58 : Cal Try.prog 58 := ⟨_, Try.func58, rfl, by decide⟩

def mI (v : Value) : Nat := match v with | .int _ k => k.toNat | _ => 0
theorem mid_eq {i j : Nat} (h : i + j ≤ 281474976710656) : IntKind.i64.wrap ((IntKind.u64.wrap ((i : Int) + (j : Int))).fdiv (2 ^ (min (Int.toNat 1) IntKind.u64.bits))) = (((i + j) / 2 : Nat) : Int) := by
  have h1 : IntKind.u64.wrap ((i : Int) + (j : Int)) = ((i + j : Nat) : Int) := by
    simp only [IntKind.wrap, IntKind.bits, IntKind.signed]
    simp
    omega
  rw [h1]
  have h2 : (2 : Int) ^ (min (Int.toNat 1) IntKind.u64.bits) = 2 := by decide
  rw [h2, Int.fdiv_eq_ediv_of_nonneg _ (by decide), wrap_in (by omega) (by omega)]
  omega
noncomputable def bsF (es : List Ed) (f : Ed) (i j : Nat) : Nat :=
  if h : i < j then (if ∃ e, es[(i + j) / 2]? = some e ∧ cmpE e f < 0 then bsF es f ((i + j) / 2 + 1) j else bsF es f i ((i + j) / 2)) else i
termination_by j - i
decreasing_by all_goals omega
theorem bs_eq {es : List Ed} {f : Ed} {i j : Nat} (h : i = j) : bsF es f i j = i := by rw [bsF, dif_neg (by omega)]
theorem bs_lt {es : List Ed} {f : Ed} {i j : Nat} {x : Ed} (h : i < j) (hx : es[(i + j) / 2]? = some x) (hc : cmpE x f < 0) : bsF es f i j = bsF es f ((i + j) / 2 + 1) j := by
  rw [bsF, dif_pos h, if_pos ⟨x, hx, hc⟩]
theorem bs_ge {es : List Ed} {f : Ed} {i j : Nat} {x : Ed} (h : i < j) (hx : es[(i + j) / 2]? = some x) (hc : ¬ cmpE x f < 0) : bsF es f i j = bsF es f i ((i + j) / 2) := by
  rw [bsF, dif_pos h, if_neg (fun ⟨e, h1, h2⟩ => by rw [hx] at h1; cases h1; exact hc h2)]
theorem c57 {v : Value} {es : List Ed} {f : Ed} (w : World) (hr : RdS w v 5 edC es) : CC Try.prog 57 [v, .agg (edC f).toArray, .func (.func 58) #[] #[]].toArray w (fun r w' => r = .tuple #[I (bsF es f 0 es.length), .bool (decide (∃ e, es[bsF es f 0 es.length]? = some e ∧ cmpE e f = 0))] ∧ Ext w w') := by
  obtain ⟨w0, e0⟩ : ∃ w0, w0 = w := ⟨w, rfl⟩
  subst e0
  have H := Hd.start w0
  obtain ⟨a, c, rfl⟩ := hr.shape
  have hle := hr.le
  refine CC.of (N := 49) Try.func57 rfl rfl rfl ?_
  refine WC.seq ?_
  refine WC.region ?_
  refine l_st rfl (s_box (by conv => lhs; whnf) H fun b4 w H => ?_)
  refine l_rd rfl rfl (x_assign ev_c) ?_
  refine l_rd rfl rfl (x_assign ev_c) ?_
  refine WL.nil ?_
  refine WC.seq ?_
  refine WC.region ?_
  refine l_rd rfl rfl (x_move (by conv => lhs; whnf)) ?_
  refine l_rd rfl rfl (x_lenSlice Try.underlying28 rfl rfl) ?_
  refine l_rd rfl rfl (x_assign (by conv => lhs; whnf)) ?_
  refine WL.nil ?_
  refine WC.seq ?_
  refine WC.region ?_
  refine l_rd rfl rfl (x_move (by conv => lhs; whnf)) ?_
  refine l_rd rfl rfl (x_assign ev_c) ?_
  refine l_rd rfl rfl (x_assign (by conv => lhs; whnf)) ?_
  refine WL.nil ?_
  refine WC.seq ?_
  refine WC.block ?_
  refine WC.loop (fun ρ ds w => ∃ i j : Nat, i ≤ j ∧ j ≤ es.length ∧ bsF es f i j = bsF es f 0 es.length ∧ ρ 9 = I i ∧ ρ 10 = I j ∧ ρ 8 = I es.length ∧ ρ 0 = .slice a es.length c ∧ ρ 2 = .func (.func 58) #[] #[] ∧ ρ 4 = .pointer (some ⟨b4, 0, none⟩) ∧ ds = [] ∧ Hd (sy w0) w [pt b4 (.cells (edC f).toArray 33 (0, 0)), fr w0]) (fun ρ w => mI (ρ 10) - mI (ρ 9)) (⟨0, es.length, Nat.zero_le _, Nat.le_refl _, rfl, rfl, rfl, rfl, rfl, rfl, rfl, rfl, H⟩) ?_
  repeat clear H
  rintro ρ ds w ⟨i, j, hij, hj, he, h9, h10, h8, h0, h2, h4, rfl, H⟩
  refine WC.seq ?_
  refine WC.seq ?_
  refine WC.region ?_
  refine l_rd rfl rfl (x_move h9) ?_
  refine l_rd rfl rfl (x_move h10) ?_
  refine l_rdD rfl rfl (x_lss rfl rfl) (fun h17 => ?_) (fun h17 => ?_)
  ·
    refine WL.nil ?_
    refine WC.cond1 rfl ?_
    refine WC.skip ?_
    refine WC.block ?_
    refine WC.seq ?_
    refine WC.region ?_
    refine l_rd rfl rfl (x_move h9) ?_
    refine l_rd rfl rfl (x_move h10) ?_
    refine l_rd rfl rfl (x_add rfl rfl (by omega) (by omega)) ?_
    refine l_rd rfl rfl (x_convI Try.underlying3 Try.underlying105 rfl) ?_
    refine l_rd rfl rfl (x_shr rfl rfl (by omega)) ?_
    refine l_rd rfl rfl (x_convI Try.underlying105 Try.underlying3 rfl) ?_
    refine l_rd rfl rfl (x_assign (by conv => lhs; whnf)) ?_
    refine WL.nil ?_
    refine WC.seq ?_
    rw [mid_eq (by omega)]
    obtain ⟨x, hxk⟩ := lt_get (show (i + j) / 2 < es.length by omega)
    obtain ⟨b2, o2, rfl, hc1⟩ := hr.el edC_len hxk
    refine WC.draw mixed [6] [[], [], [], [1, 2], [1, 2, 3], [], [0, 1, 2, 3, 4, 5], [0, 1, 2, 3, 4, 5, 6]] [0, 1, 2, 3, 4, 5, 6, 7] (by kernel_rfl) ?_
    have H := H.drew
    refine k_rd rfl rfl (RS.of rfl rfl (x_move h2)) ?_
    refine k_rd rfl rfl (RS.of rfl rfl (x_move h0)) ?_
    refine k_rd rfl rfl (RS.of rfl rfl (x_move (by conv => lhs; whnf))) ?_
    refine k_rd rfl rfl (RS.of rfl rfl (x_indexAddr Try.underlying28 ty33 rfl rfl (by omega) (by omega))) ?_
    refine k_rd rfl rfl (RS.of rfl rfl (x_loadF (vs := [_, _, _, _, _]) Try.underlying33 rfl ty33 rfl rfl (sub_row 0 (fun j u hj => (H.old 1 rfl).cell (hc1 j u hj)) rfl))) ?_
    refine k_rd rfl rfl (RS.of rfl rfl (x_loadF (vs := [_, _, _, _, _]) Try.underlying33 rfl ty33 h4 rfl (H.cellsL 0 rfl rfl))) ?_
    refine k_st rfl rfl rfl (s_callvL (caps := []) rfl cal58 (c58 (e := x) (f := f) _) ?_)
    rintro _ w ⟨rfl, e1⟩
    have H := H.ext e1
    refine ⟨⟨trivial, ⟨trivial, ⟨trivial, ⟨trivial, ⟨trivial, ⟨trivial, trivial⟩⟩⟩⟩⟩⟩, ?_⟩
    refine k_rdD rfl rfl rfl rfl (x_lss rfl rfl) (fun h31 => ?_) (fun h31 => ?_)
    ·
      show _
      refine WC.cond1 rfl ?_
      refine WC.region ?_
      refine l_rd rfl rfl (x_move (by conv => lhs; whnf)) ?_
      refine l_rd rfl rfl (x_add rfl rfl (by omega) (by omega)) ?_
      refine l_rd rfl rfl (x_assign (by conv => lhs; whnf)) ?_
      refine WL.nil ?_
      refine blockE_n ?_
      refine WC.again (⟨(i + j) / 2 + 1, j, by omega, by omega, by rw [← he]; exact (bs_lt (by omega) hxk h31).symm, rfl, h10, h8, h0, h2, h4, rfl, H⟩) (by show mI (ρ 10) - mI (I ((((i + j) / 2 : Nat) : Int) + 1)) < mI (ρ 10) - mI (ρ 9); rw [h9, h10]; simp only [mI]; omega)
    ·
      show _
      refine WC.cond0 rfl ?_
      refine WC.region ?_
      refine l_rd rfl rfl (x_move (by conv => lhs; whnf)) ?_
      refine l_rd rfl rfl (x_assign (by conv => lhs; whnf)) ?_
      refine WL.nil ?_
      refine blockE_n ?_
      refine WC.again (⟨i, (i + j) / 2, by omega, by omega, by rw [← he]; exact (bs_ge (by omega) hxk h31).symm, h9, rfl, h8, h0, h2, h4, rfl, H⟩) (by show mI (I (((i + j) / 2 : Nat) : Int)) - mI (ρ 9) < mI (ρ 10) - mI (ρ 9); rw [h9, h10]; simp only [mI]; omega)
  ·
    refine WL.nil ?_
    refine WC.cond0 rfl ?_
    refine WC.exit ?_
    refine WC.seq ?_
    refine WC.draw mixed [11] [[], [], [], [1, 2], [1, 2, 3], [1, 2, 3, 4], [1, 2, 3, 4], [1, 2, 3, 4], [1, 2, 3, 4, 6, 7], [1, 2, 3, 4, 6, 7, 8], [1, 2, 3, 4], [1, 2, 3, 4, 5, 6, 7, 8, 9, 10], [1, 2, 3, 4, 5, 6, 7, 8, 9, 10, 11], [1, 2, 3, 4, 5, 6, 7, 8, 9, 10, 11, 12], [0, 1, 2, 3, 4, 5, 6, 7, 8, 9, 10, 11], [0, 1, 2, 3, 4, 5, 6, 7, 8, 9, 10, 11, 12, 13, 14]] [0, 1, 2, 3, 4, 5, 6, 7, 8, 9, 10, 11, 12, 13, 14, 15] (by kernel_rfl) ?_
    have H := H.drew
    refine k_rd rfl rfl (RS.of rfl rfl (x_move h9)) ?_
    refine k_rd rfl rfl (RS.of rfl rfl (x_move h9)) ?_
    refine k_rd rfl rfl (RS.of rfl rfl (x_move h8)) ?_
    refine k_rdD rfl rfl rfl rfl (x_lss rfl rfl) (fun h38 => ?_) (fun h38 => ?_)
    ·
      obtain ⟨y, hyk⟩ := lt_get (show i < es.length by omega)
      obtain ⟨b2, o2, rfl, hc1⟩ := hr.el edC_len hyk
      refine k_rd rfl rfl (RS.of rfl rfl (x_move (by conv => lhs; whnf))) ?_
      refine k_rd rfl rfl (RS.yes rfl (wantY rfl rfl rfl) (x_move h2)) ?_
      refine k_rd rfl rfl (RS.yes rfl (wantY rfl rfl rfl) (x_move h0)) ?_
      refine k_rd rfl rfl (RS.yes rfl (wantY rfl rfl rfl) (x_move h9)) ?_
      refine k_rd rfl rfl (RS.yes rfl (wantY rfl rfl rfl) (x_indexAddr Try.underlying28 ty33 rfl rfl (by omega) (by omega))) ?_
      refine k_rd rfl rfl (RS.yes rfl (wantY rfl rfl rfl) (x_loadF (vs := [_, _, _, _, _]) Try.underlying33 rfl ty33 rfl rfl (sub_row 0 (fun j u hj => (H.old 1 rfl).cell (hc1 j u hj)) rfl))) ?_
      refine k_rd rfl rfl (RS.yes rfl (wantY rfl rfl rfl) (x_loadF (vs := [_, _, _, _, _]) Try.underlying33 rfl ty33 h4 rfl (H.cellsL 0 rfl rfl))) ?_
      refine k_st rfl rfl (wantY rfl rfl rfl) (s_callvL (caps := []) rfl cal58 (c58 (e := y) (f := f) _) ?_)
      rintro _ w ⟨rfl, e1⟩
      have H := H.ext e1
      refine ⟨⟨trivial, ⟨trivial, ⟨trivial, ⟨trivial, ⟨trivial, ⟨trivial, ⟨trivial, ⟨trivial, ⟨trivial, ⟨trivial, ⟨RS.of rfl rfl (x_move h9), trivial⟩⟩⟩⟩⟩⟩⟩⟩⟩⟩⟩, ?_⟩
      refine k_rdD rfl rfl (wantY rfl rfl rfl) rfl (x_eql rfl rfl) (fun h47 => ?_) (fun h47 => ?_)
      ·
        refine k_rd rfl rfl (RS.of rfl rfl (x_pick1 rfl (by conv => lhs; whnf))) ?_
        refine k_rd rfl rfl (RS.of rfl rfl (x_assign (by conv => lhs; whnf))) ?_
        refine k_rd rfl rfl (RS.of rfl rfl (x_assign (by conv => lhs; whnf))) ?_
        show _
        refine WC.ret ?_
        refine atRet ?_
        exact RetM.two rfl (by (conv => lhs; whnf); try rfl) (by (conv => lhs; whnf); try rfl) (⟨by rw [← he, bs_eq (show i = j by omega), decide_eq_true ⟨y, hyk, h47⟩], H.below 1 rfl⟩)
      ·
        refine k_rd rfl rfl (RS.of rfl rfl (x_pick1 rfl (by conv => lhs; whnf))) ?_
        refine k_rd rfl rfl (RS.of rfl rfl (x_assign (by conv => lhs; whnf))) ?_
        refine k_rd rfl rfl (RS.of rfl rfl (x_assign (by conv => lhs; whnf))) ?_
        show _
        refine WC.ret ?_
        refine atRet ?_
        exact RetM.two rfl (by (conv => lhs; whnf); try rfl) (by (conv => lhs; whnf); try rfl) (⟨by rw [← he, bs_eq (show i = j by omega), decide_eq_false (fun ⟨e, h1, h2⟩ => by rw [hyk] at h1; cases h1; exact h47 h2)], H.below 1 rfl⟩)
    ·
      refine k_rd rfl rfl (RS.of rfl rfl (x_move (by conv => lhs; whnf))) ?_
      refine k_rd rfl rfl (RS.no rfl (wantN rfl rfl rfl)) ?_
      refine k_rd rfl rfl (RS.no rfl (wantN rfl rfl rfl)) ?_
      refine k_rd rfl rfl (RS.no rfl (wantN rfl rfl rfl)) ?_
      refine k_rd rfl rfl (RS.no rfl (wantN rfl rfl rfl)) ?_
      refine k_rd rfl rfl (RS.no rfl (wantN rfl rfl rfl)) ?_
      refine k_rd rfl rfl (RS.no rfl (wantN rfl rfl rfl)) ?_
      refine k_un rfl rfl (wantN rfl rfl rfl) (⟨trivial, ⟨trivial, ⟨trivial, ⟨trivial, ⟨trivial, ⟨trivial, ⟨trivial, ⟨trivial, ⟨trivial, ⟨trivial, ⟨RS.of rfl rfl (x_move h9), trivial⟩⟩⟩⟩⟩⟩⟩⟩⟩⟩⟩) ?_
      refine k_rd rfl rfl (RS.no rfl (wantN rfl rfl rfl)) ?_
      refine k_rd rfl rfl (RS.of rfl rfl (x_pick0 rfl ev_c)) ?_
      refine k_rd rfl rfl (RS.of rfl rfl (x_assign (by conv => lhs; whnf))) ?_
      refine k_rd rfl rfl (RS.of rfl rfl (x_assign (by conv => lhs; whnf))) ?_
      show _
      refine WC.ret ?_
      refine atRet ?_
      exact RetM.two rfl (by (conv => lhs; whnf); try rfl) (by (conv => lhs; whnf); try rfl) (⟨by rw [← he, bs_eq (show i = j by omega), decide_eq_false (fun ⟨e, h1, h2⟩ => by have := (List.getElem?_eq_some_iff.1 h1).1; omega)], H.below 1 rfl⟩)

end Go.Proofs.Ytahdodijpmkddaa
set_option linter.unusedVariables false
set_option linter.unusedSimpArgs false
namespace Go.Proofs.Ytahdodijpmkddaa
open Go Go.RowKit KE Go.Proofs
/-! ### the law of heaps -/
abbrev It := Int × Int
def hlt (p q : It) : Prop := p.1 < q.1 ∨ (p.1 = q.1 ∧ p.2 < q.2)
instance (p q : It) : Decidable (hlt p q) := by unfold hlt; infer_instance
theorem ord_lt {p q : It} : ordI p q < 0 ↔ hlt p q := by
  have e : ordI p q = if cmpI p.1 q.1 ≠ 0 then cmpI p.1 q.1 else if cmpI p.2 q.2 ≠ 0 then cmpI p.2 q.2 else 0 := rfl
  rw [e]
  rcases Int.lt_trichotomy p.1 q.1 with h | h | h
  · have h1 : cmpI p.1 q.1 = -1 := by unfold cmpI; rw [if_pos h]
    rw [h1, if_pos (by decide)]; unfold hlt; omega
  · have h1 : cmpI p.1 q.1 = 0 := by unfold cmpI; rw [if_neg (by omega), if_neg (by omega)]
    rw [h1, if_neg (by decide)]
    unfold cmpI hlt
    by_cases a : p.2 < q.2
    · rw [if_pos a, if_pos (by decide)]; omega
    · rw [if_neg a]
      by_cases b : q.2 < p.2
      · rw [if_pos b, if_pos (by decide)]; omega
      · rw [if_neg b, if_neg (by decide)]; omega
  · have h1 : cmpI p.1 q.1 = 1 := by unfold cmpI; rw [if_neg (by omega), if_pos h]
    rw [h1, if_pos (by decide)]; unfold hlt; omega
abbrev at_ (xs : List It) (i : Nat) : It := xs.getD i (0, 0)
theorem at_some {xs : List It} {i : Nat} {p : It} (h : xs[i]? = some p) : at_ xs i = p := by
  simp [at_, List.getD_eq_getElem?_getD, h]
theorem some_at {xs : List It} {i : Nat} (h : i < xs.length) : xs[i]? = some (at_ xs i) := by
  simp [at_, List.getD_eq_getElem?_getD, List.getElem?_eq_getElem h]
theorem at_swap {xs : List It} {j u : Nat} {p q : It} (hj : j < xs.length) (hu : u < xs.length) (i : Nat) : at_ ((xs.set j q).set u p) i = if i = u then p else if i = j then q else at_ xs i := by
  simp only [at_, List.getD_eq_getElem?_getD, List.getElem?_set, List.length_set]
  by_cases h1 : u = i
  · subst h1; simp [hu]
  · rw [if_neg h1, if_neg (show ¬ i = u from fun h => h1 h.symm)]
    by_cases h2 : j = i
    · subst h2; rw [if_pos rfl, if_pos hj, if_pos rfl]; rfl
    · rw [if_neg h2, if_neg (show ¬ i = j from fun h => h2 h.symm)]
def ok (xs : List It) (i : Nat) : Prop := ¬ hlt (at_ xs i) (at_ xs ((i - 1) / 2))
def Heap (xs : List It) : Prop := ∀ i, 0 < i → i < xs.length → ok xs i
theorem hlt_irr (p : It) : ¬ hlt p p := by unfold hlt; omega
theorem le_tr {a b c : It} (h1 : ¬ hlt a b) (h2 : ¬ hlt b c) : ¬ hlt a c := by unfold hlt at *; omega
theorem lt_le {a b : It} (h1 : hlt a b) : ¬ hlt b a := by unfold hlt at *; omega
theorem le_anti {a b : It} (h1 : ¬ hlt a b) (h2 : ¬ hlt b a) : a = b := by
  unfold hlt at *; exact Prod.ext (by omega) (by omega)
theorem Heap.least {xs : List It} (h : Heap xs) : ∀ i, i < xs.length → ¬ hlt (at_ xs i) (at_ xs 0) := by
  intro i
  induction i using Nat.strongRecOn with
  | ind i ih =>
    intro hi
    by_cases h0 : i = 0
    · subst h0; exact hlt_irr _
    · exact le_tr (h i (by omega) hi) (ih _ (by omega) (by omega))
theorem swap_perm {xs : List It} {j u : Nat} {p q : It} (hj : xs[j]? = some p) (hu : xs[u]? = some q) (hne : j ≠ u) : ((xs.set j q).set u p).Perm xs := by
  refine List.perm_iff_count.2 fun a => ?_
  have hjl := (List.getElem?_eq_some_iff.1 hj).1
  have hul := (List.getElem?_eq_some_iff.1 hu).1
  rw [List.count_set (by simpa using hul), List.count_set hjl]
  have e1 : xs[j] = p := (List.getElem?_eq_some_iff.1 hj).2
  have e2 : (xs.set j q)[u]'(by simpa using hul) = q := by rw [List.getElem_set_ne hne]; exact (List.getElem?_eq_some_iff.1 hu).2
  rw [e1, e2]
  have c1 : (if p == a then 1 else 0) ≤ xs.count a := by
    split
    · rename_i h; rw [beq_iff_eq] at h; subst h; exact List.one_le_count_iff.2 (List.mem_of_getElem? hj)
    · omega
  have c2 : (if q == a then 1 else 0) ≤ xs.count a := by
    split
    · rename_i h; rw [beq_iff_eq] at h; subst h; exact List.one_le_count_iff.2 (List.mem_of_getElem? hu)
    · omega
  omega
/-! rise -/
def RiseI (xs : List It) (k : Nat) : Prop := (∀ i, 0 < i → i < xs.length → i ≠ k → ok xs i) ∧ ∀ i, 0 < i → i < xs.length → (i - 1) / 2 = k → 0 < k → ¬ hlt (at_ xs i) (at_ xs ((k - 1) / 2))
theorem rise_heap : ∀ (k : Nat) (xs : List It), k < xs.length → RiseI xs k → Heap (riseF xs k) ∧ (riseF xs k).Perm xs := by
  intro k
  induction k using Nat.strongRecOn with
  | ind k ih =>
    intro xs hk hr
    by_cases h0 : k = 0
    · rw [rise_zero h0]; exact ⟨fun i a b => hr.1 i a b (by omega), List.Perm.refl _⟩
    obtain ⟨u, hu⟩ : ∃ u, u = (k - 1) / 2 := ⟨_, rfl⟩
    by_cases ho : ordI (at_ xs k) (at_ xs u) < 0
    · have hul : u < xs.length := by omega
      rw [rise_yes (by omega) hu (some_at hk) (some_at hul) ho]
      have hlt1 := ord_lt.1 ho
      have hs := fun i => at_swap (p := at_ xs k) (q := at_ xs u) hk hul i
      have hI : RiseI ((xs.set k (at_ xs u)).set u (at_ xs k)) u := by
        refine ⟨fun i h1 h2 h3 => ?_, fun i h1 h2 h3 h4 => ?_⟩
        · simp only [List.length_set] at h2
          unfold ok
          rw [hs, hs, if_neg h3]
          by_cases hik : i = k
          · subst hik; rw [if_pos rfl, if_pos hu.symm]; exact lt_le hlt1
          · rw [if_neg hik]
            by_cases hpu : (i - 1) / 2 = u
            · rw [if_pos hpu]
              have := hr.1 i h1 h2 hik
              unfold ok at this; rw [hpu] at this
              exact le_tr this (lt_le hlt1)
            · rw [if_neg hpu]
              by_cases hpk : (i - 1) / 2 = k
              · rw [if_pos hpk, hu]; exact hr.2 i h1 h2 hpk (by omega)
              · rw [if_neg hpk]; exact hr.1 i h1 h2 hik
        · simp only [List.length_set] at h2
          rw [hs, hs, if_neg (show ¬ (u - 1) / 2 = u by omega), if_neg (show ¬ (u - 1) / 2 = k by omega), if_neg (show ¬ i = u by omega)]
          have hok : ¬ hlt (at_ xs u) (at_ xs ((u - 1) / 2)) := hr.1 u h4 hul (by omega)
          by_cases hik : i = k
          · rw [if_pos hik]; exact hok
          · rw [if_neg hik]
            have := hr.1 i h1 h2 hik
            unfold ok at this; rw [h3] at this
            exact le_tr this hok
      obtain ⟨a, b⟩ := ih u (by omega) _ (by simpa using hul) hI
      exact ⟨a, b.trans (swap_perm (some_at hk) (some_at hul) (by omega))⟩
    · rw [rise_no hu (some_at hk) (some_at (by omega)) ho]
      refine ⟨fun i a b => ?_, List.Perm.refl _⟩
      by_cases hik : i = k
      · subst hik; unfold ok; rw [← hu]; exact fun h => ho (ord_lt.2 h)
      · exact hr.1 i a b hik
theorem push_heap {ys : List It} (x : It) (h : Heap ys) : Heap (pushF ys x) ∧ (pushF ys x).Perm (x :: ys) := by
  have hat : ∀ i, i < ys.length → at_ (ys ++ [x]) i = at_ ys i := fun i hi => by simp [at_, List.getD_eq_getElem?_getD, List.getElem?_append_left hi]
  have := rise_heap ys.length (ys ++ [x]) (by simp) ⟨fun i h1 h2 h3 => ?_, fun i h1 h2 h3 h4 => ?_⟩
  · exact ⟨this.1, this.2.trans (List.perm_append_comm)⟩
  · have h2 : i < ys.length := by simp at h2; omega
    unfold ok; rw [hat i h2, hat _ (by omega)]; exact h i h1 h2
  · simp at h2; omega
/-! sink -/
def SinkI (xs : List It) (k : Nat) : Prop := (∀ i, 0 < i → i < xs.length → (i - 1) / 2 ≠ k → ok xs i) ∧ ∀ i, 0 < i → i < xs.length → (i - 1) / 2 = k → 0 < k → ¬ hlt (at_ xs i) (at_ xs ((k - 1) / 2))
/-- the least of a place and its first kids -/
def Lst (xs : List It) (k i m : Nat) : Prop := (m = k ∨ (0 < m ∧ (m - 1) / 2 = k ∧ m < xs.length ∧ hlt (at_ xs m) (at_ xs k))) ∧ ∀ j, j < i → 2 * k + 1 + j < xs.length → ¬ hlt (at_ xs (2 * k + 1 + j)) (at_ xs m)
theorem Lst.zero (xs : List It) (k : Nat) : Lst xs k 0 k := ⟨.inl rfl, fun j h => by omega⟩
theorem Lst.out {xs : List It} {k i m : Nat} (h : Lst xs k i m) (ho : xs.length ≤ 2 * k + 1 + i) : Lst xs k (i + 1) m := ⟨h.1, fun j a b => by
  by_cases e : j = i
  · subst e; omega
  · exact h.2 j (by omega) b⟩
theorem Lst.no {xs : List It} {k i m : Nat} (h : Lst xs k i m) (ho : ¬ hlt (at_ xs (2 * k + 1 + i)) (at_ xs m)) : Lst xs k (i + 1) m := ⟨h.1, fun j a b => by
  by_cases e : j = i
  · subst e; exact ho
  · exact h.2 j (by omega) b⟩
theorem Lst.yes {xs : List It} {k i m : Nat} (h : Lst xs k i m) (hi : i < 2) (hl : 2 * k + 1 + i < xs.length) (ho : hlt (at_ xs (2 * k + 1 + i)) (at_ xs m)) : Lst xs k (i + 1) (2 * k + 1 + i) := by
  refine ⟨.inr ⟨by omega, by omega, hl, ?_⟩, fun j a b => ?_⟩
  · rcases h.1 with e | ⟨_, _, _, e⟩
    · subst e; exact ho
    · unfold hlt at *; omega
  · by_cases e : j = i
    · subst e; exact hlt_irr _
    · exact le_tr (h.2 j (by omega) b) (lt_le ho)
theorem sink_stop {xs : List It} {k : Nat} (h : SinkI xs k) (hl : Lst xs k 2 k) : Heap xs := by
  intro i h1 h2
  by_cases e : (i - 1) / 2 = k
  · unfold ok; rw [e]
    have := hl.2 (i - (2 * k + 1)) (by omega) (by omega)
    rw [show 2 * k + 1 + (i - (2 * k + 1)) = i by omega] at this
    exact this
  · exact h.1 i h1 h2 e
theorem sink_step {xs : List It} {k m : Nat} (h : SinkI xs k) (hl : Lst xs k 2 m) (hm : m ≠ k) : SinkI ((xs.set k (at_ xs m)).set m (at_ xs k)) m := by
  rcases hl.1 with e | ⟨h0, h1, h2, h3⟩
  · exact absurd e hm
  have hk : k < xs.length := by omega
  have hs := fun i => at_swap (p := at_ xs k) (q := at_ xs m) hk h2 i
  refine ⟨fun i i1 i2 i3 => ?_, fun i i1 i2 i3 i4 => ?_⟩
  · simp only [List.length_set] at i2
    unfold ok
    rw [hs, hs, if_neg i3]
    by_cases him : i = m
    · subst him; rw [if_pos rfl, if_pos h1]; exact lt_le h3
    · rw [if_neg him]
      by_cases hik : i = k
      · subst hik
        rw [if_pos rfl, if_neg (by omega)]
        exact h.2 m h0 h2 h1 i1
      · rw [if_neg hik]
        by_cases hpk : (i - 1) / 2 = k
        · rw [if_pos hpk]
          have := hl.2 (i - (2 * k + 1)) (by omega) (by omega)
          rw [show 2 * k + 1 + (i - (2 * k + 1)) = i by omega] at this
          exact this
        · rw [if_neg hpk]; exact h.1 i i1 i2 hpk
  · simp only [List.length_set] at i2
    rw [hs, hs, if_neg (show ¬ i = m by omega), if_neg (show ¬ i = k by omega), if_neg (show ¬ (m - 1) / 2 = m by omega), if_pos h1]
    have := h.1 i i1 i2 (by omega)
    unfold ok at this; rw [i3] at this; exact this
/-! pop -/
theorem pop_pre {xs : List It} {n : Nat} (h : Heap xs) (hn : xs.length = n + 1) : SinkI ((xs.set 0 (at_ xs n)).take n) 0 ∧ (at_ xs 0 :: (xs.set 0 (at_ xs n)).take n).Perm xs := by
  have hat : ∀ i, 0 < i → i < n → at_ ((xs.set 0 (at_ xs n)).take n) i = at_ xs i := fun i h0 hi => by
    simp only [at_, List.getD_eq_getElem?_getD]
    rw [List.getElem?_take_of_lt hi, List.getElem?_set_ne (by omega)]
  refine ⟨⟨fun i h1 h2 h3 => ?_, fun i h1 h2 h3 h4 => by omega⟩, ?_⟩
  · have h2 : i < n := by simp at h2; omega
    unfold ok; rw [hat i h1 h2, hat _ (by omega) (by omega)]; exact h i h1 (by omega)
  · cases xs with
    | nil => simp at hn
    | cons x t =>
      have hl : t.length = n := by simpa using hn
      cases n with
      | zero => cases t with
        | nil => simp [at_]
        | cons y t => simp at hl
      | succ n =>
        have e : at_ (x :: t) (n + 1) = t.getD n (0, 0) := by simp [at_, List.getD_eq_getElem?_getD]
        rw [e]
        have ht : t = t.take n ++ [t.getD n (0, 0)] := by
          have := List.take_append_drop n t
          rw [List.drop_eq_getElem_cons (by omega), List.drop_of_length_le (by omega)] at this
          rw [List.getD_eq_getElem?_getD, List.getElem?_eq_getElem (by omega)]; exact this.symm
        simp only [List.set_cons_zero, List.take_succ_cons]
        have e0 : at_ (x :: t) 0 = x := rfl
        rw [e0]
        refine List.Perm.cons _ ?_
        conv => rhs; rw [ht]
        exact (List.perm_append_comm (l₁ := [t.getD n (0, 0)]) (l₂ := t.take n))
/-! sorted -/
def Srt (xs : List It) : Prop := xs.Pairwise fun p q => ¬ hlt q p
theorem srt_head {z : It} {zs ys : List It} (hs : Srt (z :: zs)) (hh : Heap ys) (hp : ys.Perm (z :: zs)) : at_ ys 0 = z := by
  have hne : 0 < ys.length := by rw [hp.length_eq]; simp
  have hm : at_ ys 0 ∈ z :: zs := hp.mem_iff.1 (List.mem_of_getElem? (some_at hne))
  have hz : z ∈ ys := hp.mem_iff.2 (List.mem_cons_self)
  obtain ⟨i, hi⟩ := List.getElem?_of_mem hz
  have h1 := hh.least i (List.getElem?_eq_some_iff.1 hi).1
  rw [at_some hi] at h1
  have hs' := List.pairwise_cons.1 hs
  rcases List.mem_cons.1 hm with e | e
  · exact e
  · exact le_anti (hs'.1 _ e) h1
theorem srt_ex (xs : List It) : ∃ zs, Srt zs ∧ zs.Perm xs := by
  refine ⟨xs.mergeSort (fun p q => decide (¬ hlt q p)), ?_, List.mergeSort_perm _ _⟩
  have := List.pairwise_mergeSort (le := fun p q : It => decide (¬ hlt q p)) (fun a b c h1 h2 => by simp only [decide_eq_true_eq] at *; exact le_tr h2 h1) (fun a b => by
    simp only [Bool.or_eq_true, decide_eq_true_eq]; unfold hlt; omega) xs
  exact this.imp (by intro a b h; simpa using h)
end Go.Proofs.Ytahdodijpmkddaa
set_option linter.unusedVariables false
set_option linter.unusedSimpArgs false
namespace Go.Proofs.Ytahdodijpmkddaa
open Go Go.RowKit KE Go.Proofs
theorem ty116 : Ty Try.prog 116 (.agg #[(.int .i64 0), (.int .i64 0)]) 2 16 := Ty.of (by kernel_rfl)

theorem arr2_at {k i : Nat} (h : i < 2) : (#[I (2 * (k : Int) + 1), I (2 * (k : Int) + 2)] : Array Value)[i]? = some (I ((2 * k + 1 + i : Nat) : Int)) := by
  rcases (show i = 0 ∨ i = 1 by omega) with rfl | rfl
  · rfl
  · show some (I (2 * (k : Int) + 2)) = _
    congr 2
theorem c88 {s : Sy} {L : List Hp} {h : Nat} {xs : List (Int × Int)} (w : World) (H : Hd s w (HeapP h xs :: L)) (hx : SinkI xs 0) (hb : xs.length ≤ 1000000) : CC Try.prog 88 [.pointer (some ⟨h, 0, none⟩)].toArray w (fun r w' => ∃ ys, Heap ys ∧ ys.Perm xs ∧ Hd s w' (HeapP h ys :: L)) := by
  refine CC.of (N := 72) Try.func88 rfl rfl rfl ?_
  refine WC.scope ?_
  refine WC.seq ?_
  refine WC.region ?_
  refine l_rd rfl rfl (x_assign ev_c) ?_
  refine WL.nil ?_
  refine WC.seq ?_
  refine WC.label ?_
  refine WC.block ?_
  refine WC.loop (fun ρ ds w => ∃ (k : Nat) (ys : List (Int × Int)), (k < ys.length ∨ k = 0) ∧ SinkI ys k ∧ ys.Perm xs ∧ ys.length = xs.length ∧ ρ 2 = I k ∧ ρ 0 = .pointer (some ⟨h, 0, none⟩) ∧ ds = [] ∧ Hd s w (HeapP h ys :: L)) (fun ρ w => xs.length + 1 - (match ρ 2 with | .int _ k => k.toNat | _ => 0)) (⟨0, xs, .inr rfl, hx, List.Perm.refl _, rfl, rfl, rfl, rfl, H⟩) ?_
  repeat clear H
  rintro ρ ds w ⟨k, ys, hk, hS, hP, hle, h2, h0, rfl, H⟩
  obtain ⟨v, H⟩ := HeapP.opn H
  obtain ⟨a, c, rfl⟩ := (H.sl 1 rfl).shape
  refine WC.block ?_
  refine WC.seq ?_
  refine WC.region ?_
  refine l_rd rfl rfl (x_move h2) ?_
  refine l_rd rfl rfl (x_assign (by conv => lhs; whnf)) ?_
  refine WL.nil ?_
  refine WC.seq ?_
  refine WC.seq ?_
  refine WC.region ?_
  refine l_rd rfl rfl (x_move h2) ?_
  refine l_rd rfl rfl (x_mul rfl rfl (by omega) (by omega)) ?_
  refine l_rd rfl rfl (x_add rfl rfl (by omega) (by omega)) ?_
  refine l_rd rfl rfl (x_move h2) ?_
  refine l_rd rfl rfl (x_mul rfl rfl (by omega) (by omega)) ?_
  refine l_rd rfl rfl (x_add rfl rfl (by omega) (by omega)) ?_
  refine l_rd rfl rfl (x_buildAr (cells := [I (2 * (k : Int) + 1), I (2 * (k : Int) + 2)]) Try.underlying116 ty116 ty3 rfl) ?_
  refine l_rd rfl rfl (x_move ev_c) ?_
  refine WL.nil ?_
  refine WC.block ?_
  refine WC.loop (fun ρ ds w => ∃ (i m : Nat), i ≤ 2 ∧ Lst ys k i m ∧ (m < ys.length ∨ m = 0) ∧ ρ 14 = I i ∧ ρ 13 = .agg #[I (2 * (k : Int) + 1), I (2 * (k : Int) + 2)] ∧ ρ 3 = I m ∧ ρ 2 = I k ∧ ρ 0 = .pointer (some ⟨h, 0, none⟩) ∧ ds = [] ∧ Hd s w (pt h (.cells #[.slice a ys.length c, .bool true] 78 (0, 0)) :: Sl (.slice a ys.length c) 69 2 ys.length (ys.flatMap itC) :: L)) (fun ρ w => 2 - (match ρ 14 with | .int _ k => k.toNat | _ => 0)) (⟨0, k, by omega, Lst.zero _ _, hk, rfl, rfl, rfl, h2, h0, rfl, H⟩) ?_
  repeat clear H
  rintro ρ ds w ⟨i, m, hi, hl, hm, h14, h13, h3, g2, g0, rfl, H⟩
  refine WC.seq ?_
  refine WC.region ?_
  refine l_rdD rfl rfl (x_lss h14 rfl) (fun h15 => ?_) (fun h15 => ?_)
  ·
    refine WL.nil ?_
    refine WC.seq ?_
    refine WC.cond1 rfl ?_
    refine WC.skip ?_
    refine WC.seq ?_
    refine WC.block ?_
    refine WC.seq ?_
    refine WC.region ?_
    refine l_rd rfl rfl (x_indexAr Try.underlying116 ty3 Try.underlying3 rfl h13 h14 (by omega) (arr2_at (k := k) (i := i) (by omega))) ?_
    refine l_rd rfl rfl (x_assign (by conv => lhs; whnf)) ?_
    refine WL.nil ?_
    refine WC.seq ?_
    refine WC.seq ?_
    refine WC.region ?_
    refine l_rd rfl rfl (x_move (by conv => lhs; whnf)) ?_
    refine l_rd rfl rfl (x_move g0) ?_
    refine l_rd rfl rfl (x_nilCheck rfl) ?_
    refine l_rd rfl rfl (x_fieldAddr Try.underlying78 rfl rfl ty76 (by decide) rfl) ?_
    refine l_rd rfl rfl (x_load Try.underlying76 rfl rfl (H.cellL 0 rfl rfl)) ?_
    refine l_rd rfl rfl (x_lenSlice Try.underlying76 rfl rfl) ?_
    refine l_rdD rfl rfl (x_geq rfl rfl) (fun h23 => ?_) (fun h23 => ?_)
    ·
      refine WL.nil ?_
      refine WC.cond1 rfl ?_
      refine WC.exit ?_
      refine WC.region ?_
      refine l_rd rfl rfl (x_add h14 rfl (by omega) (by omega)) ?_
      refine l_rd rfl rfl (x_move (by conv => lhs; whnf)) ?_
      refine WL.nil ?_
      refine WC.again (⟨i + 1, m, by omega, hl.out (by omega), hm, rfl, h13, h3, g2, g0, rfl, H⟩) (by show _ - _ < _ - _; rw [h14]; show 2 - ((i : Int) + 1).toNat < 2 - (i : Int).toNat; omega)
    ·
      refine WL.nil ?_
      refine WC.cond0 rfl ?_
      refine WC.skip ?_
      refine WC.seq ?_
      obtain ⟨p, hpk⟩ := lt_get (show 2 * k + 1 + i < ys.length by omega)
      obtain ⟨q, hqk⟩ := lt_get (show m < ys.length by omega)
      obtain ⟨b1, o1, rfl, -⟩ := (show RdS w _ 2 itC ys from H.sl 1 rfl).el itC_len hpk
      refine WC.draw mixed [14] [[], [0], [0, 1], [0, 1, 2], [], [0, 1, 2, 3, 4], [0, 1, 2, 3, 4, 5], [], [7], [7, 8], [7, 8, 9], [], [7, 8, 9, 10, 11], [7, 8, 9, 10, 11, 12], [0, 1, 2, 3, 4, 5, 6, 7, 8, 9, 10, 11, 12, 13], [0, 1, 2, 3, 4, 5, 6, 7, 8, 9, 10, 11, 12, 13, 14]] [0, 1, 2, 3, 4, 5, 6, 7, 8, 9, 10, 11, 12, 13, 14, 15] (by kernel_rfl) ?_
      have H := H.drew
      refine k_rd rfl rfl (RS.of rfl rfl (x_move g0)) ?_
      refine k_rd rfl rfl (RS.of rfl rfl (x_nilCheck rfl)) ?_
      refine k_rd rfl rfl (RS.of rfl rfl (x_fieldAddr Try.underlying78 rfl rfl ty76 (by decide) rfl)) ?_
      refine k_rd rfl rfl (RS.of rfl rfl (x_load Try.underlying76 rfl rfl (H.cellL 0 rfl rfl))) ?_
      refine k_rd rfl rfl (RS.of rfl rfl (x_move (by conv => lhs; whnf))) ?_
      refine k_rd rfl rfl (RS.of rfl rfl (x_indexAddr Try.underlying76 ty69 rfl rfl (by omega) (by omega))) ?_
      refine k_rd rfl rfl (RS.of rfl rfl (x_loadF (vs := [_, _]) Try.underlying69 rfl ty69 rfl rfl (sub_row 0 (RdS.at itC_len (show RdS _ _ 2 itC ys from H.sl 1 rfl) hpk) rfl))) ?_
      refine k_rd rfl rfl (RS.of rfl rfl (x_move g0)) ?_
      refine k_rd rfl rfl (RS.of rfl rfl (x_nilCheck rfl)) ?_
      refine k_rd rfl rfl (RS.of rfl rfl (x_fieldAddr Try.underlying78 rfl rfl ty76 (by decide) rfl)) ?_
      refine k_rd rfl rfl (RS.of rfl rfl (x_load Try.underlying76 rfl rfl (H.cellL 0 rfl rfl))) ?_
      refine k_rd rfl rfl (RS.of rfl rfl (x_move h3)) ?_
      refine k_rd rfl rfl (RS.of rfl rfl (x_indexAddr Try.underlying76 ty69 rfl rfl (by omega) (by omega))) ?_
      refine k_rd rfl rfl (RS.of rfl rfl (x_loadF (vs := [_, _]) Try.underlying69 rfl ty69 rfl rfl (sub_row 0 (RdS.at itC_len (show RdS _ _ 2 itC ys from H.sl 1 rfl) hqk) rfl))) ?_
      refine k_st rfl rfl rfl (s_callL cal80 (c80 (p := p) (q := q) _) ?_)
      rintro _ w ⟨rfl, e1⟩
      have H := H.ext e1
      refine ⟨⟨trivial, ⟨trivial, ⟨trivial, ⟨trivial, ⟨trivial, ⟨trivial, ⟨trivial, ⟨trivial, ⟨trivial, ⟨trivial, ⟨trivial, ⟨trivial, ⟨trivial, ⟨trivial, trivial⟩⟩⟩⟩⟩⟩⟩⟩⟩⟩⟩⟩⟩⟩, ?_⟩
      refine k_rdD rfl rfl rfl rfl (x_lss rfl rfl) (fun h39 => ?_) (fun h39 => ?_)
      ·
        show _
        refine WC.cond1 rfl ?_
        refine WC.region ?_
        refine l_rd rfl rfl (x_move (by conv => lhs; whnf)) ?_
        refine l_rd rfl rfl (x_assign (by conv => lhs; whnf)) ?_
        refine WL.nil ?_
        refine WC.region ?_
        refine l_rd rfl rfl (x_add h14 rfl (by omega) (by omega)) ?_
        refine l_rd rfl rfl (x_move (by conv => lhs; whnf)) ?_
        refine WL.nil ?_
        refine WC.again (⟨i + 1, 2 * k + 1 + i, by omega, hl.yes (by omega) (by omega) (by rw [at_some hpk, at_some hqk]; exact ord_lt.1 h39), by omega, rfl, h13, rfl, g2, g0, rfl, H⟩) (by show _ - _ < _ - _; rw [h14]; show 2 - ((i : Int) + 1).toNat < 2 - (i : Int).toNat; omega)
      ·
        show _
        refine WC.cond0 rfl ?_
        refine WC.skip ?_
        refine WC.region ?_
        refine l_rd rfl rfl (x_add h14 rfl (by omega) (by omega)) ?_
        refine l_rd rfl rfl (x_move (by conv => lhs; whnf)) ?_
        refine WL.nil ?_
        refine WC.again (⟨i + 1, m, by omega, hl.no (by rw [at_some hpk, at_some hqk]; exact fun h => h39 (ord_lt.2 h)), hm, rfl, h13, h3, g2, g0, rfl, H⟩) (by show _ - _ < _ - _; rw [h14]; show 2 - ((i : Int) + 1).toNat < 2 - (i : Int).toNat; omega)
  ·
    refine WL.nil ?_
    refine WC.seq ?_
    refine WC.cond0 rfl ?_
    refine WC.exit ?_
    refine WC.seq ?_
    refine WC.seq ?_
    refine WC.region ?_
    refine l_rd rfl rfl (x_move h3) ?_
    refine l_rd rfl rfl (x_move g2) ?_
    refine l_rdD rfl rfl (x_eql rfl rfl) (fun h44 => ?_) (fun h44 => ?_)
    ·
      refine WL.nil ?_
      refine WC.cond1 rfl ?_
      refine WC.exit ?_
      refine atEnd ?_
      exact RetM.none' rfl ⟨ys, sink_stop hS ((show i = 2 by omega) ▸ (show m = k by omega) ▸ hl), hP, HeapP.mk H⟩
    ·
      refine WL.nil ?_
      refine WC.cond0 rfl ?_
      refine WC.skip ?_
      refine WC.seq ?_
      obtain ⟨hm0, hmk1, hml, -⟩ : 0 < m ∧ (m - 1) / 2 = k ∧ m < ys.length ∧ hlt (at_ ys m) (at_ ys k) := by
        rcases hl.1 with e | e
        · exact absurd (by rw [e]) h44
        · exact e
      obtain rfl : i = 2 := by omega
      obtain ⟨p, hkk⟩ := lt_get (show k < ys.length by omega)
      obtain ⟨q, hmk⟩ := lt_get hml
      obtain ⟨b1, o1, rfl, -⟩ := (show RdS w _ 2 itC ys from H.sl 1 rfl).el itC_len hkk
      refine WC.draw mixed [25, 27] [[], [0], [0, 1], [0, 1, 2], [], [], [5], [5, 6], [5, 6, 7], [], [], [10], [10, 11], [10, 11, 12], [], [10, 11, 12, 13, 14], [10, 11, 12, 13, 14, 15], [], [17], [17, 18], [17, 18, 19], [], [17, 18, 19, 20, 21], [17, 18, 19, 20, 21, 22], [0, 1, 2, 3, 4, 5, 6, 7, 8, 10, 11, 12, 13, 14, 15, 16, 17, 18, 19, 20, 21, 22, 23], [0, 1, 2, 3, 4, 5, 6, 7, 8, 10, 11, 12, 13, 14, 15, 16, 17, 18, 19, 20, 21, 22, 23, 24], [0, 1, 2, 3, 4, 5, 6, 7, 8, 9, 10, 11, 12, 13, 14, 15, 16, 17, 18, 19, 20, 21, 22, 23, 24, 25], [0, 1, 2, 3, 4, 5, 6, 7, 8, 9, 10, 11, 12, 13, 14, 15, 16, 17, 18, 19, 20, 21, 22, 23, 24, 25, 26]] [0, 1, 2, 3, 4, 5, 6, 7, 8, 9, 10, 11, 12, 13, 14, 15, 16, 17, 18, 19, 20, 21, 22, 23, 24, 25, 26, 27] (by kernel_rfl) ?_
      have H := H.drew
      refine k_rd rfl rfl (RS.of rfl rfl (x_move g0)) ?_
      refine k_rd rfl rfl (RS.of rfl rfl (x_nilCheck rfl)) ?_
      refine k_rd rfl rfl (RS.of rfl rfl (x_fieldAddr Try.underlying78 rfl rfl ty76 (by decide) rfl)) ?_
      refine k_rd rfl rfl (RS.of rfl rfl (x_load Try.underlying76 rfl rfl (H.cellL 0 rfl rfl))) ?_
      refine k_rd rfl rfl (RS.of rfl rfl (x_move g2)) ?_
      refine k_rd rfl rfl (RS.of rfl rfl (x_move g0)) ?_
      refine k_rd rfl rfl (RS.of rfl rfl (x_nilCheck rfl)) ?_
      refine k_rd rfl rfl (RS.of rfl rfl (x_fieldAddr Try.underlying78 rfl rfl ty76 (by decide) rfl)) ?_
      refine k_rd rfl rfl (RS.of rfl rfl (x_load Try.underlying76 rfl rfl (H.cellL 0 rfl rfl))) ?_
      refine k_rd rfl rfl (RS.of rfl rfl (x_move h3)) ?_
      refine k_rd rfl rfl (RS.of rfl rfl (x_move g0)) ?_
      refine k_rd rfl rfl (RS.of rfl rfl (x_nilCheck rfl)) ?_
      refine k_rd rfl rfl (RS.of rfl rfl (x_fieldAddr Try.underlying78 rfl rfl ty76 (by decide) rfl)) ?_
      refine k_rd rfl rfl (RS.of rfl rfl (x_load Try.underlying76 rfl rfl (H.cellL 0 rfl rfl))) ?_
      refine k_rd rfl rfl (RS.of rfl rfl (x_move h3)) ?_
      refine k_rd rfl rfl (RS.of rfl rfl (x_indexAddr Try.underlying76 ty69 rfl rfl (by omega) (by omega))) ?_
      refine k_rd rfl rfl (RS.of rfl rfl (x_loadF (vs := [_, _]) Try.underlying69 rfl ty69 rfl rfl (sub_row 0 (RdS.at itC_len (show RdS _ _ 2 itC ys from H.sl 1 rfl) hmk) rfl))) ?_
      refine k_rd rfl rfl (RS.of rfl rfl (x_move g0)) ?_
      refine k_rd rfl rfl (RS.of rfl rfl (x_nilCheck rfl)) ?_
      refine k_rd rfl rfl (RS.of rfl rfl (x_fieldAddr Try.underlying78 rfl rfl ty76 (by decide) rfl)) ?_
      refine k_rd rfl rfl (RS.of rfl rfl (x_load Try.underlying76 rfl rfl (H.cellL 0 rfl rfl))) ?_
      refine k_rd rfl rfl (RS.of rfl rfl (x_move g2)) ?_
      refine k_rd rfl rfl (RS.of rfl rfl (x_indexAddr Try.underlying76 ty69 rfl rfl (by omega) (by omega))) ?_
      refine k_rd rfl rfl (RS.of rfl rfl (x_loadF (vs := [_, _]) Try.underlying69 rfl ty69 rfl rfl (sub_row 0 (RdS.at itC_len (show RdS _ _ 2 itC ys from H.sl 1 rfl) hkk) rfl))) ?_
      refine k_rd rfl rfl (RS.of rfl rfl (x_indexAddr Try.underlying76 ty69 rfl rfl (by omega) (by omega))) ?_
      refine k_no rfl rfl rfl (s_storeRowF (b := b1) (o := o1) (c := c) (k := k) (y := q) 1 itC_len rfl rfl (by omega) (by simp) ty69 rfl (by conv => lhs; whnf) rfl H (fun w H => ⟨⟨trivial, ⟨trivial, ⟨trivial, ⟨trivial, ⟨trivial, ⟨trivial, ⟨trivial, ⟨trivial, ⟨trivial, ⟨trivial, ⟨trivial, ⟨trivial, ⟨trivial, ⟨trivial, ⟨trivial, ⟨RS.of rfl rfl (x_move h3), ⟨trivial, ⟨trivial, ⟨trivial, ⟨trivial, ⟨trivial, ⟨trivial, ⟨trivial, ⟨trivial, ⟨trivial, trivial⟩⟩⟩⟩⟩⟩⟩⟩⟩⟩⟩⟩⟩⟩⟩⟩⟩⟩⟩⟩⟩⟩⟩⟩⟩, ?_⟩))
      refine k_rd rfl rfl (RS.of rfl rfl (x_indexAddr Try.underlying76 ty69 rfl rfl (by omega) (by omega))) ?_
      refine k_no rfl rfl rfl (s_storeRowF (b := b1) (o := o1) (c := c) (k := m) (y := p) 1 itC_len rfl rfl (by omega) (by simp) ty69 rfl (by conv => lhs; whnf) rfl H (fun w H => ⟨⟨trivial, ⟨trivial, ⟨trivial, ⟨trivial, ⟨trivial, ⟨trivial, ⟨trivial, ⟨trivial, ⟨trivial, ⟨trivial, ⟨trivial, ⟨trivial, ⟨trivial, ⟨trivial, ⟨trivial, ⟨trivial, ⟨trivial, ⟨trivial, ⟨trivial, ⟨trivial, ⟨trivial, ⟨trivial, ⟨trivial, ⟨trivial, ⟨trivial, ⟨trivial, trivial⟩⟩⟩⟩⟩⟩⟩⟩⟩⟩⟩⟩⟩⟩⟩⟩⟩⟩⟩⟩⟩⟩⟩⟩⟩⟩, ?_⟩))
      show _
      refine WC.region ?_
      refine l_rd rfl rfl (x_move h3) ?_
      refine l_rd rfl rfl (x_assign (by conv => lhs; whnf)) ?_
      refine WL.nil ?_
      refine blockE_n ?_
      refine WC.again (⟨m, (ys.set k q).set m p, by simp; omega, by have := sink_step hS hl (by omega); rw [at_some hkk, at_some hmk] at this; exact this, (swap_perm hkk hmk (by omega)).trans hP, by simpa using hle, rfl, g0, rfl, HeapP.mk (by simpa using H)⟩) (by rw [h2]; show _ - (m : Int).toNat < _ - (k : Int).toNat; omega)

end Go.Proofs.Ytahdodijpmkddaa
