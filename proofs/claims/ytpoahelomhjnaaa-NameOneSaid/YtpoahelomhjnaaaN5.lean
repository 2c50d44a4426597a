/-
  What functions of this seat do: contracts, proved by walks; each with the conditions that it names.
-/
import Derived.Test.YtpoahelomhjnaaaNX
set_option linter.unusedVariables false
set_option linter.unusedSimpArgs false
namespace Go.Proofs.Ytpoahelomhjnaaa
open Go Go.RowKit KE Go.Proofs
theorem ty43 : Ty Try.prog 43 (.agg #[(.slice none 0 0)]) 1 24 := Ty.of (by kernel_rfl)
theorem ty53 : Ty Try.prog 53 (.agg #[(.map none), (.slice none 0 0)]) 2 32 := Ty.of (by kernel_rfl)

theorem newBook {s : Sy} {w : World} {L : List Hp} {B m : Nat} (H : Hd s w (pt B (.cells #[.map (some m), .slice none 0 0] 53 (0, 0)) :: pt m (.map #[] 0) :: L)) : Hd s w (BookP B [] :: L) := by
  have h1 := (H.perm (List.Perm.swap _ _ _)).weak (Mp.made TS)
  have h2 := Hd.nil (h1.perm (List.Perm.swap _ _ _)) 9 1
  exact BookP.mk List.nodup_nil (h2.perm ((List.Perm.swap _ _ _).trans ((List.Perm.swap _ _ _).cons _)))
theorem newRef {s : Sy} {w : World} {L : List Hp} {B : Nat} (H : Hd s w (pt B (.cells #[.slice none 0 0] 43 (0, 0)) :: L)) : Hd s w (RefP B [] :: L) := RefP.mk ((Hd.nil H 9 1).perm (List.Perm.swap _ _ _))
theorem c7 {s : Sy} {L : List Hp} (w : World) (H : Hd s w L) : CC Try.prog 7 [].toArray w (fun r w' => ∃ B : Nat, r = .pointer (some ⟨B, 0, none⟩) ∧ Hd s w' (BookP B [] :: L)) := by
  refine CC.of (N := 4) Try.func7 rfl rfl rfl ?_
  refine WC.seq ?_
  refine WC.region ?_
  refine l_rd rfl rfl (x_assign ev_c) ?_
  refine WL.nil ?_
  refine WC.seq ?_
  refine WC.region ?_
  refine l_st rfl (s_makeMap H fun m1 w H => ?_)
  refine l_rd rfl rfl (x_buildL (pl := [(0, 1), (1, 1)]) (cells := [.map (some m1), .slice none 0 0]) Try.underlying53 ty53 (by kernel_rfl) rfl) ?_
  refine l_st rfl (s_box (by conv => lhs; whnf) H fun b3 w H => ?_)
  refine l_rd rfl rfl (x_assign (by conv => lhs; whnf)) ?_
  refine WL.nil ?_
  refine WC.ret ?_
  refine atRet ?_
  exact RetM.one rfl (by (conv => lhs; whnf); try rfl) (⟨b3, rfl, newBook H⟩)

theorem c8 {s : Sy} {L : List Hp} (w : World) (H : Hd s w L) : CC Try.prog 8 [].toArray w (fun r w' => ∃ B : Nat, r = .pointer (some ⟨B, 0, none⟩) ∧ Hd s w' (RefP B [] :: L)) := by
  refine CC.of (N := 3) Try.func8 rfl rfl rfl ?_
  refine WC.seq ?_
  refine WC.region ?_
  refine l_rd rfl rfl (x_assign ev_c) ?_
  refine WL.nil ?_
  refine WC.seq ?_
  refine WC.region ?_
  refine l_rd rfl rfl (x_buildL (pl := [(0, 1)]) (cells := [.slice none 0 0]) Try.underlying43 ty43 (by kernel_rfl) rfl) ?_
  refine l_st rfl (s_box (by conv => lhs; whnf) H fun b2 w H => ?_)
  refine l_rd rfl rfl (x_assign (by conv => lhs; whnf)) ?_
  refine WL.nil ?_
  refine WC.ret ?_
  refine atRet ?_
  exact RetM.one rfl (by (conv => lhs; whnf); try rfl) (⟨b2, rfl, newRef H⟩)

theorem c27 {s : Sy} {L : List Hp} {B : Nat} {tv : Value} (w : World) (H : Hd s w L) (h1 : oneC tv = true) : CC Try.prog 27 [.pointer (some ⟨B, 0, none⟩), tv].toArray w (fun r w' => ∃ b1 b2 : Nat, r = .func (.func 32) #[] [.pointer (some ⟨b1, 0, none⟩), .pointer (some ⟨b2, 0, none⟩)].toArray ∧ Hd s w' (pt b1 (.cells #[tv] 29 (0, 0)) :: pt b2 (.cells #[.pointer (some ⟨B, 0, none⟩)] 25 (0, 0)) :: L)) := by
  refine CC.of (N := 6) Try.func27 rfl rfl rfl ?_
  refine WC.seq ?_
  refine WC.region ?_
  refine l_st rfl (s_box (by conv => lhs; whnf) H fun b2 w H => ?_)
  refine l_st rfl (s_box (by conv => lhs; whnf) H fun b3 w H => ?_)
  refine l_rd rfl rfl (x_assign ev_c) ?_
  refine WL.nil ?_
  refine WC.seq ?_
  refine WC.region ?_
  refine l_rd rfl rfl (x_makeFuncL) ?_
  refine l_rd rfl rfl (x_assign (by conv => lhs; whnf)) ?_
  refine WL.nil ?_
  refine WC.ret ?_
  refine atRet ?_
  exact RetM.one rfl (by (conv => lhs; whnf); try rfl) (⟨b3, b2, rfl, by have := cells_one h1; rw [this] at H; exact H⟩)

theorem c29 {s : Sy} {L : List Hp} {B : Nat} (w : World) (H : Hd s w L) : CC Try.prog 29 [.pointer (some ⟨B, 0, none⟩)].toArray w (fun r w' => ∃ b1 : Nat, r = .func (.func 33) #[] [.pointer (some ⟨b1, 0, none⟩)].toArray ∧ Hd s w' (pt b1 (.cells #[.pointer (some ⟨B, 0, none⟩)] 25 (0, 0)) :: L)) := by
  refine CC.of (N := 4) Try.func29 rfl rfl rfl ?_
  refine WC.seq ?_
  refine WC.region ?_
  refine l_st rfl (s_box (by conv => lhs; whnf) H fun b1 w H => ?_)
  refine l_rd rfl rfl (x_assign ev_c) ?_
  refine WL.nil ?_
  refine WC.seq ?_
  refine WC.region ?_
  refine l_rd rfl rfl (x_makeFuncL) ?_
  refine l_rd rfl rfl (x_assign (by conv => lhs; whnf)) ?_
  refine WL.nil ?_
  refine WC.ret ?_
  refine atRet ?_
  exact RetM.one rfl (by (conv => lhs; whnf); try rfl) (⟨b1, rfl, H⟩)

end Go.Proofs.Ytpoahelomhjnaaa
