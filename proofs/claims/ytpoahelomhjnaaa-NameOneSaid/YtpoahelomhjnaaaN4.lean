/-
  What functions of this seat do: contracts, proved by walks; each with the conditions that it names.
-/
import Derived.Test.YtpoahelomhjnaaaN3
set_option linter.unusedVariables false
set_option linter.unusedSimpArgs false
namespace Go.Proofs.Ytpoahelomhjnaaa
open Go Go.RowKit KE Go.Proofs
theorem cal24 : Cal Try.prog 24 := ⟨_, Try.func24, rfl, by decide⟩
theorem cal28 : Cal Try.prog 28 := ⟨_, Try.func28, rfl, by decide⟩
theorem cal30 : Cal Try.prog 30 := ⟨_, Try.func30, rfl, by decide⟩
theorem cal31 : Cal Try.prog 31 := ⟨_, Try.func31, rfl, by decide⟩

def wordsL : List ByteArray := [⟨#[97, 115]⟩, ⟨#[109, 97, 116, 99, 104]⟩, ⟨#[119, 104, 101, 114, 101]⟩, ⟨#[97, 110, 100]⟩, ⟨#[114, 101, 116, 117, 114, 110]⟩, ⟨#[114, 97, 110, 103, 101]⟩, ⟨#[115, 108, 105, 100, 101]⟩]
theorem i32_b (b : UInt8) : IntKind.i32.wrap (b.toNat : Int) = (b.toNat : Int) := by
  have := b.toNat_lt
  simp only [IntKind.wrap, IntKind.bits, IntKind.signed]
  simp
  omega
def vtxB (b : UInt8) : Prop := (97 ≤ b.toNat ∧ b.toNat ≤ 122) ∨ b.toNat = 95 ∨ (48 ≤ b.toNat ∧ b.toNat ≤ 57)
theorem c19 {s : Sy} {L : List Hp} {a : Option Addr} {n c m : Nat} {cs : List Value} (w : World) (hm : m = min c (n + 12)) (hn : n ≤ 1000) (H : Hd s w (Sl (.slice a m c) 9 1 m cs :: L)) : CC Try.prog 19 [.slice a n c].toArray w (fun r w' => Hd s w' L) := by
  refine CC.of (N := 23) Try.func19 rfl rfl rfl ?_
  refine WC.seq ?_
  refine WC.region ?_
  refine l_rd rfl rfl (x_move (by conv => lhs; whnf)) ?_
  refine l_rd rfl rfl (x_move (by conv => lhs; whnf)) ?_
  refine l_rd rfl rfl (x_cap Try.underlying29 rfl rfl) ?_
  refine l_rd rfl rfl (x_move (by conv => lhs; whnf)) ?_
  refine l_rd rfl rfl (x_lenSlice Try.underlying29 rfl rfl) ?_
  refine l_rd rfl rfl (x_add rfl rfl (by omega) (by omega)) ?_
  refine l_rd rfl rfl (x_min rfl rfl) ?_
  refine l_rd rfl rfl (x_sliceTo Try.underlying29 ty9 rfl rfl (by omega) (by omega)) ?_
  refine l_rd rfl rfl (x_assign (by conv => lhs; whnf)) ?_
  refine WL.nil ?_
  refine WC.seq ?_
  refine WC.region ?_
  refine l_rd rfl rfl (x_assign ev_c) ?_
  refine WL.nil ?_
  refine WC.block ?_
  refine WC.loop (fun ρ ds w => ∃ (k : Nat) (cs : List Value), k ≤ m ∧ ρ 3 = I k ∧ ρ 2 = .slice a m c ∧ ds = [] ∧ Hd s w (Sl (.slice a m c) 9 1 m cs :: L)) (fun ρ w => m - (match ρ 3 with | .int _ k => k.toNat | _ => 0)) (⟨0, cs, Nat.zero_le _, rfl, by show Value.slice a (Int.toNat (if ((n:Int) + 12) < (c:Int) then ((n:Int) + 12) else (c : Int))) c = _; congr 1; split <;> omega, rfl, H⟩) ?_
  repeat clear H
  rintro ρ ds w ⟨k, cs1, hk, h3, h2, rfl, H⟩
  refine WC.seq ?_
  refine WC.seq ?_
  refine WC.region ?_
  refine l_rd rfl rfl (x_move h3) ?_
  refine l_rd rfl rfl (x_move h2) ?_
  refine l_rd rfl rfl (x_lenSlice Try.underlying29 rfl rfl) ?_
  refine l_rdD rfl rfl (x_lss rfl rfl) (fun h15 => ?_) (fun h15 => ?_)
  ·
    refine WL.nil ?_
    refine WC.cond1 rfl ?_
    refine WC.skip ?_
    refine WC.seq ?_
    refine WC.block ?_
    obtain ⟨b1, o1, c1, hv1, _⟩ := (H.sl 0 rfl).at_ (show k < m by omega)
    cases hv1
    refine WC.region ?_
    refine l_rd rfl rfl (x_move h2) ?_
    refine l_rd rfl rfl (x_move h3) ?_
    refine l_rd rfl rfl (x_move h3) ?_
    refine l_st rfl (s_callL cal25 (c25 _) ?_)
    rintro _ w ⟨rfl, e1⟩
    have H := H.ext e1
    refine l_rd rfl rfl (x_indexAddr Try.underlying29 ty9 rfl rfl (by omega) (by omega)) ?_
    refine l_no (s_storeEl (b := b1) (o := o1) (c := c) (k := k) 0 rfl rfl (show k < m by omega) ty9 rfl (by conv => lhs; whnf) rfl H (fun w H => ?_))
    refine WL.nil ?_
    refine WC.region ?_
    refine l_rd rfl rfl (x_move h3) ?_
    refine l_rd rfl rfl (x_add rfl rfl (by omega) (by omega)) ?_
    refine l_rd rfl rfl (x_assign (by conv => lhs; whnf)) ?_
    refine WL.nil ?_
    refine WC.again (⟨k + 1, _, by omega, rfl, h2, rfl, H⟩) (by show _ - _ < _ - _; rw [h3]; show m - ((k : Int) + 1).toNat < m - (k : Int).toNat; omega)
  ·
    refine WL.nil ?_
    refine WC.cond0 rfl ?_
    refine WC.exit ?_
    refine atEnd ?_
    exact RetM.none' rfl (H.drop)

theorem c20 {s : Sy} {L : List Hp} {a : Option Addr} {n c m : Nat} {cs : List Value} (w : World) (hm : m = min c (n + 12)) (hn : n ≤ 1000) (H : Hd s w (Sl (.slice a m c) 3 1 m cs :: L)) : CC Try.prog 20 [.slice a n c].toArray w (fun r w' => Hd s w' L) := by
  refine CC.of (N := 23) Try.func20 rfl rfl rfl ?_
  refine WC.seq ?_
  refine WC.region ?_
  refine l_rd rfl rfl (x_move (by conv => lhs; whnf)) ?_
  refine l_rd rfl rfl (x_move (by conv => lhs; whnf)) ?_
  refine l_rd rfl rfl (x_cap Try.underlying31 rfl rfl) ?_
  refine l_rd rfl rfl (x_move (by conv => lhs; whnf)) ?_
  refine l_rd rfl rfl (x_lenSlice Try.underlying31 rfl rfl) ?_
  refine l_rd rfl rfl (x_add rfl rfl (by omega) (by omega)) ?_
  refine l_rd rfl rfl (x_min rfl rfl) ?_
  refine l_rd rfl rfl (x_sliceTo Try.underlying31 ty3 rfl rfl (by omega) (by omega)) ?_
  refine l_rd rfl rfl (x_assign (by conv => lhs; whnf)) ?_
  refine WL.nil ?_
  refine WC.seq ?_
  refine WC.region ?_
  refine l_rd rfl rfl (x_assign ev_c) ?_
  refine WL.nil ?_
  refine WC.block ?_
  refine WC.loop (fun ρ ds w => ∃ (k : Nat) (cs : List Value), k ≤ m ∧ ρ 3 = I k ∧ ρ 2 = .slice a m c ∧ ds = [] ∧ Hd s w (Sl (.slice a m c) 3 1 m cs :: L)) (fun ρ w => m - (match ρ 3 with | .int _ k => k.toNat | _ => 0)) (⟨0, cs, Nat.zero_le _, rfl, by show Value.slice a (Int.toNat (if ((n:Int) + 12) < (c:Int) then ((n:Int) + 12) else (c : Int))) c = _; congr 1; split <;> omega, rfl, H⟩) ?_
  repeat clear H
  rintro ρ ds w ⟨k, cs1, hk, h3, h2, rfl, H⟩
  refine WC.seq ?_
  refine WC.seq ?_
  refine WC.region ?_
  refine l_rd rfl rfl (x_move h3) ?_
  refine l_rd rfl rfl (x_move h2) ?_
  refine l_rd rfl rfl (x_lenSlice Try.underlying31 rfl rfl) ?_
  refine l_rdD rfl rfl (x_lss rfl rfl) (fun h15 => ?_) (fun h15 => ?_)
  ·
    refine WL.nil ?_
    refine WC.cond1 rfl ?_
    refine WC.skip ?_
    refine WC.seq ?_
    refine WC.block ?_
    obtain ⟨b1, o1, c1, hv1, _⟩ := (H.sl 0 rfl).at_ (show k < m by omega)
    cases hv1
    refine WC.region ?_
    refine l_rd rfl rfl (x_move h2) ?_
    refine l_rd rfl rfl (x_move h3) ?_
    refine l_rd rfl rfl (x_move h3) ?_
    refine l_st rfl (s_callL cal28 (c28 _ (by omega) (by omega)) ?_)
    rintro _ w ⟨⟨m1, rfl⟩, e1⟩
    have H := H.ext e1
    refine l_rd rfl rfl (x_indexAddr Try.underlying31 ty3 rfl rfl (by omega) (by omega)) ?_
    refine l_no (s_storeEl (b := b1) (o := o1) (c := c) (k := k) 0 rfl rfl (show k < m by omega) ty3 rfl (by conv => lhs; whnf) rfl H (fun w H => ?_))
    refine WL.nil ?_
    refine WC.region ?_
    refine l_rd rfl rfl (x_move h3) ?_
    refine l_rd rfl rfl (x_add rfl rfl (by omega) (by omega)) ?_
    refine l_rd rfl rfl (x_assign (by conv => lhs; whnf)) ?_
    refine WL.nil ?_
    refine WC.again (⟨k + 1, _, by omega, rfl, h2, rfl, H⟩) (by show _ - _ < _ - _; rw [h3]; show m - ((k : Int) + 1).toNat < m - (k : Int).toNat; omega)
  ·
    refine WL.nil ?_
    refine WC.cond0 rfl ?_
    refine WC.exit ?_
    refine atEnd ?_
    exact RetM.none' rfl (H.drop)

theorem c24 {x : ByteArray} (w : World) (hs : ∀ (i : Nat) (h : i < x.size), vtxB x[i]) (h1 : 1 ≤ x.size) (h2 : x.size ≤ 20) : CC Try.prog 24 [S x].toArray w (fun r w' => r = .bool true ∧ Ext w w') := by
  obtain ⟨w0, e0⟩ : ∃ w0, w0 = w := ⟨w, rfl⟩
  subst e0
  have H := Hd.start w0
  refine CC.of (N := 32) Try.func24 rfl rfl rfl ?_
  refine WC.seq ?_
  refine WC.region ?_
  refine l_rd rfl rfl (x_assign ev_c) ?_
  refine WL.nil ?_
  refine WC.seq ?_
  refine WC.seq ?_
  refine WC.region ?_
  refine l_rd rfl rfl (x_move (by conv => lhs; whnf)) ?_
  refine l_st rfl (s_rangeS Try.underlying9 rfl H fun i6 w H => ?_)
  refine WL.nil ?_
  refine WC.block ?_
  refine WC.loop (fun ρ ds w => ∃ (b p : Nat), p ≤ x.size ∧ ρ 6 = .pointer (some ⟨b, 0, none⟩) ∧ ρ 0 = S x ∧ ds = [] ∧ Hd (sy w0) w [pt b (.stringIter x p), fr w0]) (fun ρ w => x.size - strIt w (ρ 6)) (⟨_, 0, Nat.zero_le _, rfl, rfl, rfl, H⟩) ?_
  repeat clear H
  rintro ρ ds w ⟨b, p, hk, h6, h0, rfl, H⟩
  refine WC.seq ?_
  refine WC.region ?_
  have hob := H.obj 0 rfl
  refine l_st rfl (s_nextA 0 rfl h6 (fun p h => by have := hs p h; unfold vtxB at this; omega) H (fun hp w H => ?_) (fun hp => ?_))
  ·
    have hv := hs p hp
    refine l_rd rfl rfl (x_extract rfl rfl) ?_
    refine WL.nil ?_
    refine WC.seq ?_
    refine WC.cond1 rfl ?_
    refine WC.skip ?_
    refine WC.block ?_
    refine WC.seq ?_
    refine WC.region ?_
    refine l_rd rfl rfl (x_extract rfl rfl) ?_
    refine l_rd rfl rfl (x_assign (by conv => lhs; whnf)) ?_
    refine WL.nil ?_
    refine WC.seq ?_
    refine WC.region ?_
    refine l_rd rfl rfl (x_move (by conv => lhs; whnf)) ?_
    refine l_st rfl (s_callL cal30 (c30 _) ?_)
    rintro r w ⟨hr1, e1⟩
    have H := H.ext e1
    by_cases h11 : 97 ≤ ((x[p].toNat : Nat) : Int) ∧ ((x[p].toNat : Nat) : Int) ≤ 122
    ·
      obtain rfl : r = .bool true := by rw [hr1, decide_eq_true h11]
      refine l_rd rfl rfl (x_not rfl) ?_
      refine l_rd rfl rfl (x_move (by conv => lhs; whnf)) ?_
      refine l_gn (wantN rfl rfl rfl) rfl ?_
      refine l_gn (wantN rfl rfl rfl) rfl ?_
      refine l_rd rfl rfl (x_pick0 rfl ev_c) ?_
      refine l_rd rfl rfl (x_move (by conv => lhs; whnf)) ?_
      refine l_gn (wantN rfl rfl rfl) rfl ?_
      refine l_gn (wantN rfl rfl rfl) rfl ?_
      refine l_gn (wantN rfl rfl rfl) rfl ?_
      refine l_gn (wantU rfl rfl rfl) rfl ?_
      refine l_gn (wantU rfl rfl rfl) rfl ?_
      refine l_gn (wantN rfl rfl rfl) rfl ?_
      refine l_rd rfl rfl (x_pick0 rfl ev_c) ?_
      refine WL.nil ?_
      refine WC.cond0 rfl ?_
      refine WC.skip ?_
      refine blockE_n ?_
      refine WC.again (⟨b, p + 1, by omega, h6, h0, rfl, H⟩) (by show x.size - strIt _ (ρ 6) < x.size - strIt _ (ρ 6); rw [h6, strIt_eq (H.obj 0 rfl), strIt_eq hob]; omega)
    ·
      obtain rfl : r = .bool false := by rw [hr1, decide_eq_false h11]
      refine l_rd rfl rfl (x_not rfl) ?_
      refine l_rd rfl rfl (x_move (by conv => lhs; whnf)) ?_
      refine l_gy (wantY rfl rfl rfl) rfl rfl (x_move (by conv => lhs; whnf)) ?_
      refine l_gyD (wantY rfl rfl rfl) rfl rfl (x_neq rfl rfl) (fun h15 => ?_) (fun h15 => ?_)
      ·
        refine l_rd rfl rfl (x_pick1 rfl (by conv => lhs; whnf)) ?_
        refine l_rd rfl rfl (x_move (by conv => lhs; whnf)) ?_
        refine l_gy (wantY rfl rfl rfl) rfl rfl (x_move (by conv => lhs; whnf)) ?_
        refine l_gyD (wantY rfl rfl rfl) rfl rfl (x_lss rfl rfl) (fun h19 => ?_) (fun h19 => ?_)
        ·
          refine l_gy (wantY rfl rfl rfl) rfl rfl (x_move (by conv => lhs; whnf)) ?_
          refine l_gn (wantN rfl rfl rfl) rfl ?_
          refine l_gn (wantN rfl rfl rfl) rfl ?_
          refine l_gy (wantY rfl rfl rfl) rfl rfl (x_pick1 rfl ev_c) ?_
          refine l_rd rfl rfl (x_pick1 rfl (by conv => lhs; whnf)) ?_
          refine WL.nil ?_
          refine WC.cond1 rfl ?_
          refine WC.seq ?_
          exfalso; unfold vtxB at hv; omega
        ·
          refine l_gy (wantY rfl rfl rfl) rfl rfl (x_move (by conv => lhs; whnf)) ?_
          refine l_gy (wantY rfl rfl rfl) rfl rfl (x_move (by conv => lhs; whnf)) ?_
          refine l_gyD (wantY rfl rfl rfl) rfl rfl (x_gtr rfl rfl) (fun h22 => ?_) (fun h22 => ?_)
          ·
            refine l_gy (wantY rfl rfl rfl) rfl rfl (x_pick0 rfl (by conv => lhs; whnf)) ?_
            refine l_rd rfl rfl (x_pick1 rfl (by conv => lhs; whnf)) ?_
            refine WL.nil ?_
            refine WC.cond1 rfl ?_
            refine WC.seq ?_
            exfalso; unfold vtxB at hv; omega
          ·
            refine l_gy (wantY rfl rfl rfl) rfl rfl (x_pick0 rfl (by conv => lhs; whnf)) ?_
            refine l_rd rfl rfl (x_pick1 rfl (by conv => lhs; whnf)) ?_
            refine WL.nil ?_
            refine WC.cond0 rfl ?_
            refine WC.skip ?_
            refine blockE_n ?_
            refine WC.again (⟨b, p + 1, by omega, h6, h0, rfl, H⟩) (by show x.size - strIt _ (ρ 6) < x.size - strIt _ (ρ 6); rw [h6, strIt_eq (H.obj 0 rfl), strIt_eq hob]; omega)
      ·
        refine l_rd rfl rfl (x_pick1 rfl (by conv => lhs; whnf)) ?_
        refine l_rd rfl rfl (x_move (by conv => lhs; whnf)) ?_
        refine l_gn (wantN rfl rfl rfl) rfl ?_
        refine l_gn (wantN rfl rfl rfl) rfl ?_
        refine l_gn (wantN rfl rfl rfl) rfl ?_
        refine l_gn (wantU rfl rfl rfl) rfl ?_
        refine l_gn (wantU rfl rfl rfl) rfl ?_
        refine l_gn (wantN rfl rfl rfl) rfl ?_
        refine l_rd rfl rfl (x_pick0 rfl ev_c) ?_
        refine WL.nil ?_
        refine WC.cond0 rfl ?_
        refine WC.skip ?_
        refine blockE_n ?_
        refine WC.again (⟨b, p + 1, by omega, h6, h0, rfl, H⟩) (by show x.size - strIt _ (ρ 6) < x.size - strIt _ (ρ 6); rw [h6, strIt_eq (H.obj 0 rfl), strIt_eq hob]; omega)
  ·
    refine l_rd rfl rfl (x_extract rfl rfl) ?_
    refine WL.nil ?_
    refine WC.seq ?_
    refine WC.cond0 rfl ?_
    refine WC.exit ?_
    refine WC.seq ?_
    refine WC.region ?_
    refine l_rd rfl rfl (x_move h0) ?_
    refine l_rdD rfl rfl (x_neqS rfl rfl) (fun h26 => ?_) (fun h26 => ?_)
    ·
      refine l_rd rfl rfl (x_move (by conv => lhs; whnf)) ?_
      refine l_gy (wantY rfl rfl rfl) rfl rfl (x_move h0) ?_
      refine l_gy (wantY rfl rfl rfl) rfl rfl (x_lenStr Try.underlying9 rfl rfl) ?_
      refine l_gyD (wantY rfl rfl rfl) rfl rfl (x_leq rfl rfl) (fun h30 => ?_) (fun h30 => ?_)
      ·
        refine l_rd rfl rfl (x_pick1 rfl (by conv => lhs; whnf)) ?_
        refine l_rd rfl rfl (x_assign (by conv => lhs; whnf)) ?_
        refine WL.nil ?_
        refine WC.ret ?_
        refine atRet ?_
        exact RetM.one rfl (by (conv => lhs; whnf); try rfl) (⟨rfl, H.below 1 rfl⟩)
      ·
        exfalso; omega
    ·
      exact absurd (show x = ⟨#[]⟩ from Classical.not_not.1 h26) (fun e => by subst e; exact absurd h1 (by decide))

theorem c23 {x : ByteArray} (w : World) (hs : ∀ (i : Nat) (h : i < x.size), vtxB x[i]) (h1 : 1 ≤ x.size) (h2 : x.size ≤ 20) (h3 : 97 ≤ x[0].toNat ∧ x[0].toNat ≤ 122) : CC Try.prog 23 [S x].toArray w (fun r w' => r = .bool (decide (¬ x ∈ wordsL)) ∧ Ext w w') := by
  obtain ⟨w0, e0⟩ : ∃ w0, w0 = w := ⟨w, rfl⟩
  subst e0
  have H := Hd.start w0
  refine CC.of (N := 19) Try.func23 rfl rfl rfl ?_
  refine WC.seq ?_
  refine WC.region ?_
  refine l_rd rfl rfl (x_assign ev_c) ?_
  refine WL.nil ?_
  refine WC.seq ?_
  refine WC.region ?_
  refine l_st rfl (s_buildN (xs := [.const (.string ⟨#[97, 115]⟩), .const (.string ⟨#[109, 97, 116, 99, 104]⟩), .const (.string ⟨#[119, 104, 101, 114, 101]⟩), .const (.string ⟨#[97, 110, 100]⟩), .const (.string ⟨#[114, 101, 116, 117, 114, 110]⟩), .const (.string ⟨#[114, 97, 110, 103, 101]⟩), .const (.string ⟨#[115, 108, 105, 100, 101]⟩)]) (vs := wordsL.map S) Try.underlying29 ty9 rfl rfl rfl rfl (by decide) (by decide) (fun v hv => by obtain ⟨x, _, rfl⟩ := List.mem_map.1 hv; rfl) H fun b4 w H => ?_)
  refine l_rd rfl rfl (x_assign (by conv => lhs; whnf)) ?_
  refine WL.nil ?_
  refine WC.seq ?_
  refine WC.region ?_
  refine l_rd rfl rfl (x_move (by conv => lhs; whnf)) ?_
  refine l_st rfl (s_callL cal24 (c24 _ hs h1 h2) ?_)
  rintro _ w ⟨rfl, e1⟩
  have H := H.ext e1
  refine l_rd rfl rfl (x_move (by conv => lhs; whnf)) ?_
  refine l_gy (wantY rfl rfl rfl) rfl rfl (x_move (by conv => lhs; whnf)) ?_
  refine l_gy (wantY rfl rfl rfl) rfl rfl (x_indexS Try.underlying9 rfl rfl (by omega) (by omega)) ?_
  refine l_gy (wantY rfl rfl rfl) rfl rfl (x_convI Try.underlying5 Try.underlying21 rfl) ?_
  refine l_gst (wantY rfl rfl rfl) rfl (s_callL cal30 (c30 (x := IntKind.i32.wrap ((x[0].toNat : Nat) : Int)) _) ?_)
  rintro r w ⟨hr1, e1⟩
  have H := H.ext e1
  obtain rfl : r = .bool true := by rw [hr1, i32_b, decide_eq_true (by omega)]
  refine l_rd rfl rfl (x_pick1 rfl (by conv => lhs; whnf)) ?_
  refine l_rd rfl rfl (x_move (by conv => lhs; whnf)) ?_
  refine l_gy (wantY rfl rfl rfl) rfl rfl (x_move (by conv => lhs; whnf)) ?_
  refine l_gy (wantY rfl rfl rfl) rfl rfl (x_move (by conv => lhs; whnf)) ?_
  refine l_gst (wantY rfl rfl rfl) rfl (s_callL cal31 (c31 _ (H.sl 0 rfl)) ?_)
  rintro r w ⟨hr1, e1⟩
  have H := H.ext e1
  by_cases h16 : x ∈ wordsL
  ·
    obtain rfl : r = .bool true := by rw [hr1, decide_eq_true h16]
    refine l_gy (wantY rfl rfl rfl) rfl rfl (x_not rfl) ?_
    refine l_rd rfl rfl (x_pick1 rfl (by conv => lhs; whnf)) ?_
    refine l_rd rfl rfl (x_assign (by conv => lhs; whnf)) ?_
    refine WL.nil ?_
    refine WC.ret ?_
    refine atRet ?_
    exact RetM.one rfl (by (conv => lhs; whnf); try rfl) (⟨by rw [decide_eq_false (fun h => h h16)]; rfl, H.below 1 rfl⟩)
  ·
    obtain rfl : r = .bool false := by rw [hr1, decide_eq_false h16]
    refine l_gy (wantY rfl rfl rfl) rfl rfl (x_not rfl) ?_
    refine l_rd rfl rfl (x_pick1 rfl (by conv => lhs; whnf)) ?_
    refine l_rd rfl rfl (x_assign (by conv => lhs; whnf)) ?_
    refine WL.nil ?_
    refine WC.ret ?_
    refine atRet ?_
    exact RetM.one rfl (by (conv => lhs; whnf); try rfl) (⟨by rw [decide_eq_true h16]; rfl, H.below 1 rfl⟩)

end Go.Proofs.Ytpoahelomhjnaaa
