/-
  What functions of this seat do: contracts, proved by walks; each with the conditions that it names.
-/
import Derived.Test.YtpoahelomhjnaaaKEi
import Derived.Test.YtpoahelomhjnaaaProg
set_option linter.unusedVariables false
set_option linter.unusedSimpArgs false
namespace Go.Proofs.Ytpoahelomhjnaaa
open Go Go.RowKit KE Go.Proofs
theorem mixed : Try.prog.follows .mixedOrders = true := by kernel_rfl
theorem ty3 : Ty Try.prog 3 (.int .i64 0) 1 8 := Ty.of (by kernel_rfl)
theorem ty9 : Ty Try.prog 9 (.string ⟨#[]⟩) 1 16 := Ty.of (by kernel_rfl)
theorem c16 {va vb : Value} {xs ys : List Int} (w : World) (hx : RdL w va (.int .i64) xs) (hy : RdL w vb (.int .i64) ys) : CC Try.prog 16 [va, vb].toArray w (fun r w' => r = .bool (decide (xs = ys)) ∧ Ext w w') := by
  obtain ⟨a, c, rfl⟩ := hx.shape
  obtain ⟨a2, c2, rfl⟩ := hy.shape
  obtain ⟨w0, e0⟩ : ∃ w0, w0 = w := ⟨w, rfl⟩
  subst e0
  have H := Hd.start w0
  have hbx := hx.le
  have hby := hy.le
  refine CC.of (N := 26) Try.func16 rfl rfl rfl ?_
  refine WC.seq ?_
  refine WC.region ?_
  refine l_rd rfl rfl (x_assign ev_c) ?_
  refine WL.nil ?_
  refine WC.seq ?_
  refine WC.seq ?_
  refine WC.region ?_
  refine l_rd rfl rfl (x_move (by conv => lhs; whnf)) ?_
  refine l_rd rfl rfl (x_lenSlice Try.underlying31 rfl rfl) ?_
  refine l_rd rfl rfl (x_move (by conv => lhs; whnf)) ?_
  refine l_rd rfl rfl (x_lenSlice Try.underlying31 rfl rfl) ?_
  refine l_rdD rfl rfl (x_neq rfl rfl) (fun h10 => ?_) (fun h10 => ?_)
  ·
    refine WL.nil ?_
    refine WC.cond1 rfl ?_
    refine WC.seq ?_
    refine WC.region ?_
    refine l_rd rfl rfl (x_assign ev_c) ?_
    refine WL.nil ?_
    refine WC.ret ?_
    refine atRet ?_
    exact RetM.one rfl (by (conv => lhs; whnf); try rfl) (⟨by rw [decide_eq_false (fun e => h10 (by rw [e]))], H.below 0 rfl⟩)
  ·
    refine WL.nil ?_
    refine WC.cond0 rfl ?_
    refine WC.skip ?_
    refine WC.seq ?_
    refine WC.seq ?_
    refine WC.region ?_
    refine l_rd rfl rfl (x_assign ev_c) ?_
    refine WL.nil ?_
    refine WC.block ?_
    refine WC.loop (fun ρ ds w => ∃ k : Nat, k ≤ xs.length ∧ (∀ j, j < k → xs[j]? = ys[j]?) ∧ ρ 5 = .int .i64 k ∧ ρ 0 = .slice a xs.length c ∧ ρ 1 = .slice a2 ys.length c2 ∧ ds = [] ∧ Hd (sy w0) w [fr w0]) (fun ρ w => xs.length - (match ρ 5 with | .int _ k => k.toNat | _ => 0)) (⟨0, Nat.zero_le _, fun j h => absurd h (by omega), rfl, rfl, rfl, rfl, H⟩) ?_
    repeat clear H
    rintro ρ ds w ⟨k, hk, he, h5, h0, h1, rfl, H⟩
    refine WC.seq ?_
    refine WC.seq ?_
    refine WC.region ?_
    refine l_rd rfl rfl (x_move h5) ?_
    refine l_rd rfl rfl (x_move h0) ?_
    refine l_rd rfl rfl (x_lenSlice Try.underlying31 rfl rfl) ?_
    refine l_rdD rfl rfl (x_lss rfl rfl) (fun h14 => ?_) (fun h14 => ?_)
    ·
      refine WL.nil ?_
      refine WC.cond1 rfl ?_
      refine WC.skip ?_
      refine WC.seq ?_
      refine WC.block ?_
      refine WC.seq ?_
      obtain ⟨x, hxk⟩ := lt_get (show k < xs.length by omega)
      obtain ⟨y, hyk⟩ := lt_get (show k < ys.length by omega)
      obtain ⟨b1, o1, rfl, hc1⟩ := ((H.old 0 rfl).rdL hx).el hxk
      obtain ⟨b2, o2, rfl, hc2⟩ := ((H.old 0 rfl).rdL hy).el hyk
      refine WC.draw mixed [] [[], [], [0, 1], [0, 1, 2], [], [], [4, 5], [4, 5, 6], [0, 1, 2, 3, 4, 5, 6, 7]] [0, 1, 2, 3, 4, 5, 6, 7, 8] (by kernel_rfl) ?_
      have H := H.drew
      refine k_rd rfl rfl (RS.of rfl rfl (x_move h0)) ?_
      refine k_rd rfl rfl (RS.of rfl rfl (x_move h5)) ?_
      refine k_rd rfl rfl (RS.of rfl rfl (x_indexAddr Try.underlying31 ty3 rfl rfl (by omega) (by omega))) ?_
      refine k_rd rfl rfl (RS.of rfl rfl (x_load Try.underlying3 rfl rfl hc1)) ?_
      refine k_rd rfl rfl (RS.of rfl rfl (x_move h1)) ?_
      refine k_rd rfl rfl (RS.of rfl rfl (x_move h5)) ?_
      refine k_rd rfl rfl (RS.of rfl rfl (x_indexAddr Try.underlying31 ty3 rfl rfl (by omega) (by omega))) ?_
      refine k_rd rfl rfl (RS.of rfl rfl (x_load Try.underlying3 rfl rfl hc2)) ?_
      refine k_rdD rfl rfl rfl rfl (x_neq rfl rfl) (fun h25 => ?_) (fun h25 => ?_)
      ·
        show _
        refine WC.cond1 rfl ?_
        refine WC.seq ?_
        refine WC.region ?_
        refine l_rd rfl rfl (x_assign ev_c) ?_
        refine WL.nil ?_
        refine WC.ret ?_
        refine atRet ?_
        exact RetM.one rfl (by (conv => lhs; whnf); try rfl) (⟨by rw [decide_eq_false (fun e => h25 (by subst e; rw [hxk] at hyk; exact (Option.some.inj hyk)))], H.below 0 rfl⟩)
      ·
        show _
        refine WC.cond0 rfl ?_
        refine WC.skip ?_
        refine WC.region ?_
        refine l_rd rfl rfl (x_move h5) ?_
        refine l_rd rfl rfl (x_add rfl rfl (by omega) (by omega)) ?_
        refine l_rd rfl rfl (x_assign (by conv => lhs; whnf)) ?_
        refine WL.nil ?_
        refine WC.again (⟨k + 1, by omega, fun j hj => by
              by_cases e : j = k
              · subst e; rw [hxk, hyk]; exact congrArg some (by simpa using h25)
              · exact he j (by omega), rfl, h0, h1, rfl, H⟩) (by show _ - _ < _ - _; rw [h5]; show xs.length - ((k : Int) + 1).toNat < xs.length - (k : Int).toNat; omega)
    ·
      refine WL.nil ?_
      refine WC.cond0 rfl ?_
      refine WC.exit ?_
      refine WC.seq ?_
      refine WC.region ?_
      refine l_rd rfl rfl (x_assign ev_c) ?_
      refine WL.nil ?_
      refine WC.ret ?_
      refine atRet ?_
      exact RetM.one rfl (by (conv => lhs; whnf); try rfl) (⟨by rw [decide_eq_true (list_eq (by omega) (fun j hj => he j (by omega)))], H.below 0 rfl⟩)

theorem c21 {va vb : Value} {xs ys : List ByteArray} (w : World) (hx : RdL w va (.string) xs) (hy : RdL w vb (.string) ys) : CC Try.prog 21 [va, vb].toArray w (fun r w' => r = .bool (decide (xs = ys)) ∧ Ext w w') := by
  obtain ⟨a, c, rfl⟩ := hx.shape
  obtain ⟨a2, c2, rfl⟩ := hy.shape
  obtain ⟨w0, e0⟩ : ∃ w0, w0 = w := ⟨w, rfl⟩
  subst e0
  have H := Hd.start w0
  have hbx := hx.le
  have hby := hy.le
  refine CC.of (N := 26) Try.func21 rfl rfl rfl ?_
  refine WC.seq ?_
  refine WC.region ?_
  refine l_rd rfl rfl (x_assign ev_c) ?_
  refine WL.nil ?_
  refine WC.seq ?_
  refine WC.seq ?_
  refine WC.region ?_
  refine l_rd rfl rfl (x_move (by conv => lhs; whnf)) ?_
  refine l_rd rfl rfl (x_lenSlice Try.underlying29 rfl rfl) ?_
  refine l_rd rfl rfl (x_move (by conv => lhs; whnf)) ?_
  refine l_rd rfl rfl (x_lenSlice Try.underlying29 rfl rfl) ?_
  refine l_rdD rfl rfl (x_neq rfl rfl) (fun h10 => ?_) (fun h10 => ?_)
  ·
    refine WL.nil ?_
    refine WC.cond1 rfl ?_
    refine WC.seq ?_
    refine WC.region ?_
    refine l_rd rfl rfl (x_assign ev_c) ?_
    refine WL.nil ?_
    refine WC.ret ?_
    refine atRet ?_
    exact RetM.one rfl (by (conv => lhs; whnf); try rfl) (⟨by rw [decide_eq_false (fun e => h10 (by rw [e]))], H.below 0 rfl⟩)
  ·
    refine WL.nil ?_
    refine WC.cond0 rfl ?_
    refine WC.skip ?_
    refine WC.seq ?_
    refine WC.seq ?_
    refine WC.region ?_
    refine l_rd rfl rfl (x_assign ev_c) ?_
    refine WL.nil ?_
    refine WC.block ?_
    refine WC.loop (fun ρ ds w => ∃ k : Nat, k ≤ xs.length ∧ (∀ j, j < k → xs[j]? = ys[j]?) ∧ ρ 5 = .int .i64 k ∧ ρ 0 = .slice a xs.length c ∧ ρ 1 = .slice a2 ys.length c2 ∧ ds = [] ∧ Hd (sy w0) w [fr w0]) (fun ρ w => xs.length - (match ρ 5 with | .int _ k => k.toNat | _ => 0)) (⟨0, Nat.zero_le _, fun j h => absurd h (by omega), rfl, rfl, rfl, rfl, H⟩) ?_
    repeat clear H
    rintro ρ ds w ⟨k, hk, he, h5, h0, h1, rfl, H⟩
    refine WC.seq ?_
    refine WC.seq ?_
    refine WC.region ?_
    refine l_rd rfl rfl (x_move h5) ?_
    refine l_rd rfl rfl (x_move h0) ?_
    refine l_rd rfl rfl (x_lenSlice Try.underlying29 rfl rfl) ?_
    refine l_rdD rfl rfl (x_lss rfl rfl) (fun h14 => ?_) (fun h14 => ?_)
    ·
      refine WL.nil ?_
      refine WC.cond1 rfl ?_
      refine WC.skip ?_
      refine WC.seq ?_
      refine WC.block ?_
      refine WC.seq ?_
      obtain ⟨x, hxk⟩ := lt_get (show k < xs.length by omega)
      obtain ⟨y, hyk⟩ := lt_get (show k < ys.length by omega)
      obtain ⟨b1, o1, rfl, hc1⟩ := ((H.old 0 rfl).rdL hx).el hxk
      obtain ⟨b2, o2, rfl, hc2⟩ := ((H.old 0 rfl).rdL hy).el hyk
      refine WC.draw mixed [] [[], [], [0, 1], [0, 1, 2], [], [], [4, 5], [4, 5, 6], [0, 1, 2, 3, 4, 5, 6, 7]] [0, 1, 2, 3, 4, 5, 6, 7, 8] (by kernel_rfl) ?_
      have H := H.drew
      refine k_rd rfl rfl (RS.of rfl rfl (x_move h0)) ?_
      refine k_rd rfl rfl (RS.of rfl rfl (x_move h5)) ?_
      refine k_rd rfl rfl (RS.of rfl rfl (x_indexAddr Try.underlying29 ty9 rfl rfl (by omega) (by omega))) ?_
      refine k_rd rfl rfl (RS.of rfl rfl (x_load Try.underlying9 rfl rfl hc1)) ?_
      refine k_rd rfl rfl (RS.of rfl rfl (x_move h1)) ?_
      refine k_rd rfl rfl (RS.of rfl rfl (x_move h5)) ?_
      refine k_rd rfl rfl (RS.of rfl rfl (x_indexAddr Try.underlying29 ty9 rfl rfl (by omega) (by omega))) ?_
      refine k_rd rfl rfl (RS.of rfl rfl (x_load Try.underlying9 rfl rfl hc2)) ?_
      refine k_rdD rfl rfl rfl rfl (x_neqS rfl rfl) (fun h25 => ?_) (fun h25 => ?_)
      ·
        show _
        refine WC.cond1 rfl ?_
        refine WC.seq ?_
        refine WC.region ?_
        refine l_rd rfl rfl (x_assign ev_c) ?_
        refine WL.nil ?_
        refine WC.ret ?_
        refine atRet ?_
        exact RetM.one rfl (by (conv => lhs; whnf); try rfl) (⟨by rw [decide_eq_false (fun e => h25 (by subst e; rw [hxk] at hyk; exact (Option.some.inj hyk)))], H.below 0 rfl⟩)
      ·
        show _
        refine WC.cond0 rfl ?_
        refine WC.skip ?_
        refine WC.region ?_
        refine l_rd rfl rfl (x_move h5) ?_
        refine l_rd rfl rfl (x_add rfl rfl (by omega) (by omega)) ?_
        refine l_rd rfl rfl (x_assign (by conv => lhs; whnf)) ?_
        refine WL.nil ?_
        refine WC.again (⟨k + 1, by omega, fun j hj => by
              by_cases e : j = k
              · subst e; rw [hxk, hyk]; exact congrArg some (by simpa using h25)
              · exact he j (by omega), rfl, h0, h1, rfl, H⟩) (by show _ - _ < _ - _; rw [h5]; show xs.length - ((k : Int) + 1).toNat < xs.length - (k : Int).toNat; omega)
    ·
      refine WL.nil ?_
      refine WC.cond0 rfl ?_
      refine WC.exit ?_
      refine WC.seq ?_
      refine WC.region ?_
      refine l_rd rfl rfl (x_assign ev_c) ?_
      refine WL.nil ?_
      refine WC.ret ?_
      refine atRet ?_
      exact RetM.one rfl (by (conv => lhs; whnf); try rfl) (⟨by rw [decide_eq_true (list_eq (by omega) (fun j hj => he j (by omega)))], H.below 0 rfl⟩)

end Go.Proofs.Ytpoahelomhjnaaa
