/-
  What functions of this seat do: contracts, proved by walks; each with the conditions that it names.
-/
import Derived.Test.YtpoahelomhjnaaaN1
import Derived.Test.YtpoahelomhjnaaaKEk
set_option linter.unusedVariables false
set_option linter.unusedSimpArgs false
namespace Go.Proofs.Ytpoahelomhjnaaa
open Go Go.RowKit KE Go.Proofs
theorem ty5 : Ty Try.prog 5 (.int .u8 0) 1 1 := Ty.of (by kernel_rfl)

def LL (w : World) (v : Value) (ll : List (List ByteArray)) : Prop := ∃ vs : List Value, RdL w v id vs ∧ vs.length = ll.length ∧ ∀ (i : Nat) (u : Value) (ts : List ByteArray), vs[i]? = some u → ll[i]? = some ts → RdL w u S ts
theorem LL.shape {w : World} {v : Value} {ll : List (List ByteArray)} (h : LL w v ll) : ∃ a c, v = .slice a ll.length c := by
  obtain ⟨vs, h1, h2, h3⟩ := h; rw [← h2]; exact h1.shape
theorem LL.le {w : World} {v : Value} {ll : List (List ByteArray)} (h : LL w v ll) : ll.length ≤ 140737488355328 := by
  obtain ⟨vs, h1, h2, h3⟩ := h; rw [← h2]; exact h1.le
theorem LL.old {w w' : World} {v : Value} {ll : List (List ByteArray)} (h : LL w v ll) (e : Old w w') : LL w' v ll := by
  obtain ⟨vs, h1, h2, h3⟩ := h; exact ⟨vs, e.rdL h1, h2, fun i u ts a b => e.rdL (h3 i u ts a b)⟩
theorem LL.el {w : World} {a : Option Addr} {n c i : Nat} {ll : List (List ByteArray)} {ts : List ByteArray} (h : LL w (.slice a n c) ll) (hx : ll[i]? = some ts) : ∃ b o u, a = some ⟨b, o, none⟩ ∧ w.cell? ⟨b, o + i * 1, none⟩ = some u ∧ RdL w u S ts := by
  obtain ⟨vs, h1, h2, h3⟩ := h
  obtain ⟨u, hu⟩ := lt_get (show i < vs.length by have := (List.getElem?_eq_some_iff.1 hx).1; omega)
  obtain ⟨b, o, e, hc⟩ := h1.el hu
  exact ⟨b, o, u, e, hc, h3 i u ts hu hx⟩
def markB (k i : Int) : List Int := [35, IntKind.u8.wrap k, IntKind.u8.wrap (k.fdiv (2 ^ (min (Int.toNat 8) IntKind.i64.bits))), IntKind.u8.wrap (k.fdiv (2 ^ (min (Int.toNat 16) IntKind.i64.bits))), 47, IntKind.u8.wrap i, IntKind.u8.wrap (i.fdiv (2 ^ (min (Int.toNat 8) IntKind.i64.bits))), IntKind.u8.wrap (i.fdiv (2 ^ (min (Int.toNat 16) IntKind.i64.bits)))]
def markT (k i : Int) : ByteArray := (markB k i).foldl (fun s v => s.push (UInt8.ofNat v.toNat)) ByteArray.empty
theorem u8_in (x : Int) : 0 ≤ IntKind.u8.wrap x ∧ IntKind.u8.wrap x < 256 := by
  simp only [IntKind.wrap, IntKind.bits, IntKind.signed]
  simp
  omega
theorem markB_in (k i : Int) : ∀ v ∈ markB k i, 0 ≤ v ∧ v < 256 := by
  intro v hv
  simp only [markB, List.mem_cons, List.not_mem_nil, or_false] at hv
  rcases hv with h | h | h | h | h | h | h | h <;> subst h <;> first | exact u8_in _ | omega
def marksK (k : Nat) : List ByteArray := (List.range k).map fun (i : Nat) => markT 1 (i : Int)
theorem marksK_len (k : Nat) : (marksK k).length = k := by simp [marksK]
theorem marksK_at {k i : Nat} (h : i < k) : (marksK k)[i]? = some (markT 1 (i : Int)) := by simp [marksK, List.getElem?_range h]
theorem marksK_succ (k : Nat) : marksK (k + 1) = marksK k ++ [markT 1 (k : Int)] := by simp [marksK, List.range_succ]
theorem c5 {v : Value} {ll : List (List ByteArray)} (w : World) (hL : LL w v ll) : CC Try.prog 5 [v].toArray w (fun r w' => (∃ m : Int, r = I m ∧ (m ≤ 400 → (ll.length : Int) + ((ll.map List.length).sum : Nat) ≤ 400)) ∧ Ext w w') := by
  obtain ⟨w0, e0⟩ : ∃ w0, w0 = w := ⟨w, rfl⟩
  subst e0
  have H := Hd.start w0
  obtain ⟨a, c, rfl⟩ := hL.shape
  have hle := hL.le
  refine CC.of (N := 25) Try.func5 rfl rfl rfl ?_
  refine WC.seq ?_
  refine WC.region ?_
  refine l_rd rfl rfl (x_assign ev_c) ?_
  refine WL.nil ?_
  refine WC.seq ?_
  refine WC.region ?_
  refine l_rd rfl rfl (x_move (by conv => lhs; whnf)) ?_
  refine l_rd rfl rfl (x_lenSlice Try.underlying22 rfl rfl) ?_
  refine l_rd rfl rfl (x_assign (by conv => lhs; whnf)) ?_
  refine WL.nil ?_
  refine WC.seq ?_
  refine WC.seq ?_
  refine WC.region ?_
  refine l_rd rfl rfl (x_assign ev_c) ?_
  refine WL.nil ?_
  refine WC.block ?_
  refine WC.loop (fun ρ ds w => ∃ k m : Nat, k ≤ ll.length ∧ m = ll.length + ((ll.take k).map List.length).sum ∧ m ≤ 281474976710656 ∧ ρ 4 = I k ∧ ρ 3 = I m ∧ ρ 0 = .slice a ll.length c ∧ ds = [] ∧ Hd (sy w0) w [fr w0]) (fun ρ w => ll.length - (match ρ 4 with | .int _ k => k.toNat | _ => 0)) (⟨0, ll.length, Nat.zero_le _, by simp, by omega, rfl, rfl, rfl, rfl, H⟩) ?_
  repeat clear H
  rintro ρ ds w ⟨k, m, hk, hm, hm2, h4, h3, h0, rfl, H⟩
  refine WC.seq ?_
  refine WC.seq ?_
  refine WC.region ?_
  refine l_rd rfl rfl (x_move h4) ?_
  refine l_rd rfl rfl (x_move h0) ?_
  refine l_rd rfl rfl (x_lenSlice Try.underlying22 rfl rfl) ?_
  refine l_rdD rfl rfl (x_lss rfl rfl) (fun h10 => ?_) (fun h10 => ?_)
  ·
    refine l_rd rfl rfl (x_move (by conv => lhs; whnf)) ?_
    refine l_gy (wantY rfl rfl rfl) rfl rfl (x_move h3) ?_
    refine l_gyD (wantY rfl rfl rfl) rfl rfl (x_leq rfl rfl) (fun h13 => ?_) (fun h13 => ?_)
    ·
      refine l_rd rfl rfl (x_pick1 rfl (by conv => lhs; whnf)) ?_
      refine WL.nil ?_
      refine WC.cond1 rfl ?_
      refine WC.skip ?_
      refine WC.seq ?_
      refine WC.block ?_
      obtain ⟨us, hus⟩ := lt_get (show k < ll.length by omega)
      obtain ⟨b1, o1, u, rfl, hc1, hu⟩ := hL.el hus
      obtain ⟨a1, c1, rfl⟩ := hu.shape
      have hule := hu.le
      refine WC.region ?_
      refine l_rd rfl rfl (x_move h3) ?_
      refine l_rd rfl rfl (x_move h0) ?_
      refine l_rd rfl rfl (x_move h4) ?_
      refine l_rd rfl rfl (x_indexAddr Try.underlying22 ty29 rfl rfl (by omega) (by omega)) ?_
      refine l_rd rfl rfl (x_load Try.underlying29 rfl rfl ((H.old 0 rfl).cell hc1)) ?_
      refine l_rd rfl rfl (x_lenSlice Try.underlying29 rfl rfl) ?_
      refine l_rd rfl rfl (x_add rfl rfl (by omega) (by omega)) ?_
      refine l_rd rfl rfl (x_assign (by conv => lhs; whnf)) ?_
      refine WL.nil ?_
      refine WC.region ?_
      refine l_rd rfl rfl (x_move h4) ?_
      refine l_rd rfl rfl (x_add rfl rfl (by omega) (by omega)) ?_
      refine l_rd rfl rfl (x_assign (by conv => lhs; whnf)) ?_
      refine WL.nil ?_
      refine WC.again (⟨k + 1, m + us.length, by omega, by rw [List.take_succ_eq_append_getElem (by omega), List.map_append, List.sum_append]; rw [List.getElem?_eq_getElem (by omega)] at hus; rw [Option.some.inj hus]; simp only [List.map_cons, List.map_nil, List.sum_cons, List.sum_nil]; omega, by omega, rfl, rfl, h0, rfl, H⟩) (by show _ - _ < _ - _; rw [h4]; show ll.length - ((k : Int) + 1).toNat < ll.length - (k : Int).toNat; omega)
    ·
      refine l_rd rfl rfl (x_pick1 rfl (by conv => lhs; whnf)) ?_
      refine WL.nil ?_
      refine WC.cond0 rfl ?_
      refine WC.exit ?_
      refine WC.seq ?_
      refine WC.region ?_
      refine l_rd rfl rfl (x_move h3) ?_
      refine l_rd rfl rfl (x_assign (by conv => lhs; whnf)) ?_
      refine WL.nil ?_
      refine WC.ret ?_
      refine atRet ?_
      exact RetM.one rfl (by (conv => lhs; whnf); try rfl) (⟨⟨m, rfl, fun h => absurd h h13⟩, H.below 0 rfl⟩)
  ·
    refine l_rd rfl rfl (x_move (by conv => lhs; whnf)) ?_
    refine l_gn (wantN rfl rfl rfl) rfl ?_
    refine l_gn (wantN rfl rfl rfl) rfl ?_
    refine l_rd rfl rfl (x_pick0 rfl ev_c) ?_
    refine WL.nil ?_
    refine WC.cond0 rfl ?_
    refine WC.exit ?_
    refine WC.seq ?_
    refine WC.region ?_
    refine l_rd rfl rfl (x_move h3) ?_
    refine l_rd rfl rfl (x_assign (by conv => lhs; whnf)) ?_
    refine WL.nil ?_
    refine WC.ret ?_
    refine atRet ?_
    exact RetM.one rfl (by (conv => lhs; whnf); try rfl) (⟨⟨m, rfl, fun h => by rw [List.take_of_length_le (by omega)] at hm; omega⟩, H.below 0 rfl⟩)

theorem c28 {k i : Int} (w : World) (h0 : 0 ≤ k ∧ k ≤ 10) (h1 : 0 ≤ i ∧ i ≤ 100000) : CC Try.prog 28 [I k, I i].toArray w (fun r w' => (∃ m : Int, r = I m) ∧ Ext w w') := by
  obtain ⟨w0, e0⟩ : ∃ w0, w0 = w := ⟨w, rfl⟩
  subst e0
  have H := Hd.start w0
  refine CC.of (N := 10) Try.func28 rfl rfl rfl ?_
  refine WC.seq ?_
  refine WC.region ?_
  refine l_rd rfl rfl (x_assign ev_c) ?_
  refine WL.nil ?_
  refine WC.seq ?_
  refine WC.region ?_
  refine l_rd rfl rfl (x_move (by conv => lhs; whnf)) ?_
  refine l_rd rfl rfl (x_add rfl rfl (by omega) (by omega)) ?_
  refine l_rd rfl rfl (x_mul rfl rfl (by omega) (by omega)) ?_
  refine l_rd rfl rfl (x_move (by conv => lhs; whnf)) ?_
  refine l_rd rfl rfl (x_add rfl rfl (by omega) (by omega)) ?_
  refine l_rd rfl rfl (x_assign (by conv => lhs; whnf)) ?_
  refine WL.nil ?_
  refine WC.ret ?_
  refine atRet ?_
  exact RetM.one rfl (by (conv => lhs; whnf); try rfl) (⟨⟨_, rfl⟩, H.below 0 rfl⟩)

theorem c25 {k i : Int} (w : World) : CC Try.prog 25 [I k, I i].toArray w (fun r w' => r = S (markT k i) ∧ Ext w w') := by
  obtain ⟨w0, e0⟩ : ∃ w0, w0 = w := ⟨w, rfl⟩
  subst e0
  have H := Hd.start w0
  refine CC.of (N := 23) Try.func25 rfl rfl rfl ?_
  refine WC.seq ?_
  refine WC.region ?_
  refine l_rd rfl rfl (x_assign ev_c) ?_
  refine WL.nil ?_
  refine WC.seq ?_
  refine WC.region ?_
  refine l_rd rfl rfl (x_move (by conv => lhs; whnf)) ?_
  refine l_rd rfl rfl (x_convI Try.underlying3 Try.underlying5 rfl) ?_
  refine l_rd rfl rfl (x_move (by conv => lhs; whnf)) ?_
  refine l_rd rfl rfl (x_shr rfl rfl (by omega)) ?_
  refine l_rd rfl rfl (x_convI Try.underlying3 Try.underlying5 rfl) ?_
  refine l_rd rfl rfl (x_move (by conv => lhs; whnf)) ?_
  refine l_rd rfl rfl (x_shr rfl rfl (by omega)) ?_
  refine l_rd rfl rfl (x_convI Try.underlying3 Try.underlying5 rfl) ?_
  refine l_rd rfl rfl (x_move (by conv => lhs; whnf)) ?_
  refine l_rd rfl rfl (x_convI Try.underlying3 Try.underlying5 rfl) ?_
  refine l_rd rfl rfl (x_move (by conv => lhs; whnf)) ?_
  refine l_rd rfl rfl (x_shr rfl rfl (by omega)) ?_
  refine l_rd rfl rfl (x_convI Try.underlying3 Try.underlying5 rfl) ?_
  refine l_rd rfl rfl (x_move (by conv => lhs; whnf)) ?_
  refine l_rd rfl rfl (x_shr rfl rfl (by omega)) ?_
  refine l_rd rfl rfl (x_convI Try.underlying3 Try.underlying5 rfl) ?_
  refine l_st rfl (s_buildN (xs := [.const (.int .u8 35), .tmp 6, .tmp 9, .tmp 12, .const (.int .u8 47), .tmp 14, .tmp 17, .tmp 20]) (vs := (markB k i).map (.int .u8)) Try.underlying65 ty5 rfl rfl rfl rfl (by decide) (by decide) (fun v hv => by obtain ⟨x, _, rfl⟩ := List.mem_map.1 hv; rfl) H fun b21 w H => ?_)
  refine l_rd rfl rfl (x_convBS (vs := markB k i) (n := 0) Try.underlying65 Try.underlying5 Try.underlying9 (by conv => lhs; whnf) (H.sl 0 rfl) (markB_in k i)) ?_
  refine l_rd rfl rfl (x_assign (by conv => lhs; whnf)) ?_
  refine WL.nil ?_
  refine WC.ret ?_
  refine atRet ?_
  exact RetM.one rfl (by (conv => lhs; whnf); try rfl) (⟨rfl, H.below 1 rfl⟩)

end Go.Proofs.Ytpoahelomhjnaaa
