/-
  What functions of this seat do: contracts, proved by walks, and the plain laws that they need; each with the conditions that it names.
-/
import Derived.Test.YtahdodijpmkddaaM1
import Derived.Test.YtahdodijpmkddaaE3
set_option linter.unusedVariables false
set_option linter.unusedSimpArgs false
namespace Go.Proofs.Ytahdodijpmkddaa
open Go Go.RowKit KE Go.Proofs
theorem cal53 : Cal Try.prog 53 := ⟨_, Try.func53, rfl, by decide⟩
theorem cal63 : Cal Try.prog 63 := ⟨_, Try.func63, rfl, by decide⟩
theorem cal74 : Cal Try.prog 74 := ⟨_, Try.func74, rfl, by decide⟩
theorem cal89 : Cal Try.prog 89 := ⟨_, Try.func89, rfl, by decide⟩

theorem mem_at {ts : List ByteArray} {k : Nat} {x : ByteArray} (h : ts[k]? = some x) : x ∈ ts := List.mem_of_getElem? h
theorem no_at {ts : List ByteArray} {k : Nat} {x : ByteArray} (h : ts.length ≤ k) (he : ∀ j, j < k → ts[j]? ≠ some x) : ¬ x ∈ ts := fun hm => by
  obtain ⟨j, hj⟩ := List.getElem?_of_mem hm
  exact he j (by have := (List.getElem?_eq_some_iff.1 hj).1; omega) hj
theorem idx_at {ts : List ByteArray} {k : Nat} {x : ByteArray} (h : ts[k]? = some x) (he : ∀ j, j < k → ts[j]? ≠ some x) : ((ts.idxOf x : Nat) : Int) = (k : Int) := by
  have hm : ts.idxOf x < ts.length := List.idxOf_lt_length_of_mem (mem_at h)
  have h1 : ts[ts.idxOf x]? = some x := by rw [List.getElem?_eq_getElem hm, List.getElem_idxOf hm]
  have h2 : ¬ ts.idxOf x < k := fun hl => he _ hl h1
  have h3 : ¬ k < ts.idxOf x := fun hl => by
    have := List.not_of_lt_findIdx hl
    obtain ⟨hk, e⟩ := List.getElem?_eq_some_iff.1 h
    simp [e] at this
  omega
def wordsL : List ByteArray := [⟨#[97, 115]⟩, ⟨#[109, 97, 116, 99, 104]⟩, ⟨#[119, 104, 101, 114, 101]⟩, ⟨#[97, 110, 100]⟩, ⟨#[114, 101, 116, 117, 114, 110]⟩, ⟨#[114, 97, 110, 103, 101]⟩, ⟨#[115, 108, 105, 100, 101]⟩]
theorem i32_b (b : UInt8) : IntKind.i32.wrap (b.toNat : Int) = (b.toNat : Int) := by
  have := b.toNat_lt
  simp only [IntKind.wrap, IntKind.bits, IntKind.signed]
  simp
  omega
def fre (x : ByteArray) : Prop := vtx x ∧ (∃ h : 0 < x.size, (97 : Int) ≤ (((x[0]'h).toNat : Nat) : Int) ∧ (((x[0]'h).toNat : Nat) : Int) ≤ 122) ∧ ¬ x ∈ wordsL
noncomputable instance (x : ByteArray) : Decidable (fre x) := Classical.propDecidable _
theorem no_word {x : ByteArray} (h1 : ¬ x = ⟨#[97, 115]⟩) (h2 : ¬ x = ⟨#[109, 97, 116, 99, 104]⟩) (h3 : ¬ x = ⟨#[119, 104, 101, 114, 101]⟩) (h4 : ¬ x = ⟨#[97, 110, 100]⟩) (h5 : ¬ x = ⟨#[114, 101, 116, 117, 114, 110]⟩) (h6 : ¬ x = ⟨#[114, 97, 110, 103, 101]⟩) (h7 : ¬ x = ⟨#[115, 108, 105, 100, 101]⟩) : ¬ x ∈ wordsL := by
  simp only [wordsL, List.mem_cons, List.not_mem_nil, or_false]
  rintro (q | q | q | q | q | q | q)
  · exact h1 q
  · exact h2 q
  · exact h3 q
  · exact h4 q
  · exact h5 q
  · exact h6 q
  · exact h7 q
theorem c89 {v : Value} {ts : List ByteArray} {x : ByteArray} (w : World) (hr : RdL w v S ts) : CC Try.prog 89 [v, S x].toArray w (fun r w' => r = I (if x ∈ ts then (ts.idxOf x : Int) else -1) ∧ Ext w w') := by
  obtain ⟨w0, e0⟩ : ∃ w0, w0 = w := ⟨w, rfl⟩
  subst e0
  have H := Hd.start w0
  obtain ⟨a, c, rfl⟩ := hr.shape
  have hle := hr.le
  refine CC.of (N := 19) Try.func89 rfl rfl rfl ?_
  refine WC.seq ?_
  refine WC.region ?_
  refine l_rd rfl rfl (x_assign ev_c) ?_
  refine WL.nil ?_
  refine WC.seq ?_
  refine WC.seq ?_
  refine WC.region ?_
  refine l_rd rfl rfl (x_move (by conv => lhs; whnf)) ?_
  refine l_rd rfl rfl (x_lenSlice Try.underlying102 rfl rfl) ?_
  refine l_rd rfl rfl (x_move ev_c) ?_
  refine WL.nil ?_
  refine WC.block ?_
  refine WC.loop (fun ρ ds w => ∃ k : Nat, k ≤ ts.length ∧ (∀ j, j < k → ts[j]? ≠ some x) ∧ ρ 8 = .int .i64 k ∧ ρ 7 = .int .i64 ts.length ∧ ρ 0 = .slice a ts.length c ∧ ρ 1 = S x ∧ ds = [] ∧ Hd (sy w0) w [fr w0]) (fun ρ w => ts.length - (match ρ 8 with | .int _ k => k.toNat | _ => 0)) (⟨0, Nat.zero_le _, fun j h => absurd h (by omega), rfl, rfl, rfl, rfl, rfl, H⟩) ?_
  repeat clear H
  rintro ρ ds w ⟨k, hk, he, h8, h7, h0, h1, rfl, H⟩
  refine WC.seq ?_
  refine WC.region ?_
  refine l_rdD rfl rfl (x_lss h8 h7) (fun h9 => ?_) (fun h9 => ?_)
  ·
    refine WL.nil ?_
    refine WC.seq ?_
    refine WC.cond1 rfl ?_
    refine WC.skip ?_
    refine WC.seq ?_
    refine WC.block ?_
    refine WC.seq ?_
    refine WC.region ?_
    refine l_rd rfl rfl (x_move h8) ?_
    refine l_rd rfl rfl (x_assign (by conv => lhs; whnf)) ?_
    refine WL.nil ?_
    refine WC.seq ?_
    obtain ⟨y, hyk⟩ := lt_get (show k < ts.length by omega)
    obtain ⟨b1, o1, rfl, hc1⟩ := ((H.old 0 rfl).rdL hr).el hyk
    refine WC.region ?_
    refine l_rd rfl rfl (x_move h1) ?_
    refine l_rd rfl rfl (x_move h0) ?_
    refine l_rd rfl rfl (x_move (by conv => lhs; whnf)) ?_
    refine l_rd rfl rfl (x_indexAddr Try.underlying102 ty9 rfl rfl (by omega) (by omega)) ?_
    refine l_rd rfl rfl (x_load Try.underlying9 rfl rfl hc1) ?_
    refine l_rdD rfl rfl (x_eqlS rfl rfl) (fun h16 => ?_) (fun h16 => ?_)
    ·
      refine WL.nil ?_
      refine WC.cond1 rfl ?_
      refine WC.seq ?_
      refine WC.region ?_
      refine l_rd rfl rfl (x_move (by conv => lhs; whnf)) ?_
      refine l_rd rfl rfl (x_assign (by conv => lhs; whnf)) ?_
      refine WL.nil ?_
      refine WC.ret ?_
      refine atRet ?_
      exact RetM.one rfl (by (conv => lhs; whnf); try rfl) (⟨by rw [if_pos (mem_at (h16 ▸ hyk)), idx_at (h16 ▸ hyk) he], H.below 0 rfl⟩)
    ·
      refine WL.nil ?_
      refine WC.cond0 rfl ?_
      refine WC.skip ?_
      refine WC.region ?_
      refine l_rd rfl rfl (x_add h8 rfl (by omega) (by omega)) ?_
      refine l_rd rfl rfl (x_move (by conv => lhs; whnf)) ?_
      refine WL.nil ?_
      refine WC.again (⟨k + 1, by omega, fun j hj => by
            by_cases e : j = k
            · subst e; rw [hyk]; exact fun e => h16 (by simpa using e.symm)
            · exact he j (by omega), rfl, h7, h0, h1, rfl, H⟩) (by show _ - _ < _ - _; rw [h8]; show ts.length - ((k : Int) + 1).toNat < ts.length - (k : Int).toNat; omega)
  ·
    refine WL.nil ?_
    refine WC.seq ?_
    refine WC.cond0 rfl ?_
    refine WC.exit ?_
    refine WC.seq ?_
    refine WC.region ?_
    refine l_rd rfl rfl (x_assign ev_c) ?_
    refine WL.nil ?_
    refine WC.ret ?_
    refine atRet ?_
    exact RetM.one rfl (by (conv => lhs; whnf); try rfl) (⟨by rw [if_neg (no_at (by omega) he)], H.below 0 rfl⟩)

theorem c74 {v : Value} {ts : List ByteArray} {x : ByteArray} (w : World) (hr : RdL w v S ts) : CC Try.prog 74 [v, S x].toArray w (fun r w' => r = .bool (decide (x ∈ ts)) ∧ Ext w w') := by
  obtain ⟨w0, e0⟩ : ∃ w0, w0 = w := ⟨w, rfl⟩
  subst e0
  have H := Hd.start w0
  refine CC.of (N := 9) Try.func74 rfl rfl rfl ?_
  refine WC.seq ?_
  refine WC.region ?_
  refine l_rd rfl rfl (x_assign ev_c) ?_
  refine WL.nil ?_
  refine WC.seq ?_
  refine WC.region ?_
  refine l_rd rfl rfl (x_move (by conv => lhs; whnf)) ?_
  refine l_rd rfl rfl (x_move (by conv => lhs; whnf)) ?_
  refine l_st rfl (s_callL cal89 (c89 _ ((H.old 0 rfl).rdL hr)) ?_)
  rintro _ w ⟨rfl, e1⟩
  have H := H.ext e1
  refine l_rdD rfl rfl (x_geq rfl rfl) (fun h8 => ?_) (fun h8 => ?_)
  ·
    refine l_rd rfl rfl (x_assign (by conv => lhs; whnf)) ?_
    refine WL.nil ?_
    refine WC.ret ?_
    refine atRet ?_
    exact RetM.one rfl (by (conv => lhs; whnf); try rfl) (⟨by rw [decide_eq_true]; split at h8 <;> first | assumption | omega, H.below 0 rfl⟩)
  ·
    refine l_rd rfl rfl (x_assign (by conv => lhs; whnf)) ?_
    refine WL.nil ?_
    refine WC.ret ?_
    refine atRet ?_
    exact RetM.one rfl (by (conv => lhs; whnf); try rfl) (⟨by rw [decide_eq_false]; split at h8 <;> first | assumption | omega, H.below 0 rfl⟩)

theorem c64 {x : ByteArray} (w : World) (hsz : x.size ≤ 140737488355328) : CC Try.prog 64 [S x].toArray w (fun r w' => r = .bool (decide (fre x)) ∧ Ext w w') := by
  obtain ⟨w0, e0⟩ : ∃ w0, w0 = w := ⟨w, rfl⟩
  subst e0
  have H := Hd.start w0
  refine CC.of (N := 21) Try.func64 rfl rfl rfl ?_
  refine WC.seq ?_
  refine WC.region ?_
  refine l_rd rfl rfl (x_assign ev_c) ?_
  refine WL.nil ?_
  refine WC.seq ?_
  refine WC.seq ?_
  refine WC.region ?_
  refine l_rd rfl rfl (x_move (by conv => lhs; whnf)) ?_
  refine l_st rfl (s_callL cal63 (c63 _ hsz) ?_)
  rintro r w ⟨hr1, e1⟩
  have H := H.ext e1
  by_cases h4 : vtx x
  ·
    obtain rfl : r = .bool true := by rw [hr1, decide_eq_true h4]
    have hs1 : 0 < x.size := h4.2.1
    refine l_rd rfl rfl (x_not rfl) ?_
    refine l_rd rfl rfl (x_move (by conv => lhs; whnf)) ?_
    refine l_gy (wantY rfl rfl rfl) rfl rfl (x_move (by conv => lhs; whnf)) ?_
    refine l_gy (wantY rfl rfl rfl) rfl rfl (x_indexS Try.underlying9 rfl rfl (by omega) (by omega)) ?_
    refine l_gst (wantY rfl rfl rfl) rfl (s_callL cal83 (c83 (x := (((x[0]'hs1).toNat : Nat) : Int)) _) ?_)
    rintro r w ⟨hr1, e1⟩
    have H := H.ext e1
    by_cases h9 : (97 : Int) ≤ (((x[0]'hs1).toNat : Nat) : Int) ∧ (((x[0]'hs1).toNat : Nat) : Int) ≤ 122
    ·
      obtain rfl : r = .bool true := by rw [hr1, decide_eq_true h9]
      refine l_gy (wantY rfl rfl rfl) rfl rfl (x_not rfl) ?_
      refine l_rd rfl rfl (x_pick0 rfl (by conv => lhs; whnf)) ?_
      refine WL.nil ?_
      refine WC.cond0 rfl ?_
      refine WC.skip ?_
      refine WC.seq ?_
      refine WC.seq ?_
      refine WC.region ?_
      refine l_rd rfl rfl (x_move (by conv => lhs; whnf)) ?_
      refine WL.nil ?_
      refine WC.block ?_
      refine WC.seq ?_
      refine WC.seq ?_
      refine WC.region ?_
      refine l_rdD rfl rfl (x_eqlS rfl rfl) (fun h14 => ?_) (fun h14 => ?_)
      ·
        refine l_rd rfl rfl (x_assign (by conv => lhs; whnf)) ?_
        refine WL.nil ?_
        refine WC.cond1 rfl ?_
        refine WC.skip ?_
        refine WC.cond1 rfl ?_
        refine WC.seq ?_
        refine WC.region ?_
        refine l_rd rfl rfl (x_assign ev_c) ?_
        refine WL.nil ?_
        refine WC.ret ?_
        refine atRet ?_
        exact RetM.one rfl (by (conv => lhs; whnf); try rfl) (⟨by rw [decide_eq_false (fun h => h.2.2 (by rw [h14]; simp [wordsL]))], H.below 0 rfl⟩)
      ·
        refine l_rd rfl rfl (x_assign (by conv => lhs; whnf)) ?_
        refine WL.nil ?_
        refine WC.cond0 rfl ?_
        refine WC.seq ?_
        refine WC.region ?_
        refine l_rdD rfl rfl (x_eqlS rfl rfl) (fun h15 => ?_) (fun h15 => ?_)
        ·
          refine l_rd rfl rfl (x_assign (by conv => lhs; whnf)) ?_
          refine WL.nil ?_
          refine WC.cond1 rfl ?_
          refine WC.skip ?_
          refine WC.cond1 rfl ?_
          refine WC.seq ?_
          refine WC.region ?_
          refine l_rd rfl rfl (x_assign ev_c) ?_
          refine WL.nil ?_
          refine WC.ret ?_
          refine atRet ?_
          exact RetM.one rfl (by (conv => lhs; whnf); try rfl) (⟨by rw [decide_eq_false (fun h => h.2.2 (by rw [h15]; simp [wordsL]))], H.below 0 rfl⟩)
        ·
          refine l_rd rfl rfl (x_assign (by conv => lhs; whnf)) ?_
          refine WL.nil ?_
          refine WC.cond0 rfl ?_
          refine WC.seq ?_
          refine WC.region ?_
          refine l_rdD rfl rfl (x_eqlS rfl rfl) (fun h16 => ?_) (fun h16 => ?_)
          ·
            refine l_rd rfl rfl (x_assign (by conv => lhs; whnf)) ?_
            refine WL.nil ?_
            refine WC.cond1 rfl ?_
            refine WC.skip ?_
            refine WC.cond1 rfl ?_
            refine WC.seq ?_
            refine WC.region ?_
            refine l_rd rfl rfl (x_assign ev_c) ?_
            refine WL.nil ?_
            refine WC.ret ?_
            refine atRet ?_
            exact RetM.one rfl (by (conv => lhs; whnf); try rfl) (⟨by rw [decide_eq_false (fun h => h.2.2 (by rw [h16]; simp [wordsL]))], H.below 0 rfl⟩)
          ·
            refine l_rd rfl rfl (x_assign (by conv => lhs; whnf)) ?_
            refine WL.nil ?_
            refine WC.cond0 rfl ?_
            refine WC.seq ?_
            refine WC.region ?_
            refine l_rdD rfl rfl (x_eqlS rfl rfl) (fun h17 => ?_) (fun h17 => ?_)
            ·
              refine l_rd rfl rfl (x_assign (by conv => lhs; whnf)) ?_
              refine WL.nil ?_
              refine WC.cond1 rfl ?_
              refine WC.skip ?_
              refine WC.cond1 rfl ?_
              refine WC.seq ?_
              refine WC.region ?_
              refine l_rd rfl rfl (x_assign ev_c) ?_
              refine WL.nil ?_
              refine WC.ret ?_
              refine atRet ?_
              exact RetM.one rfl (by (conv => lhs; whnf); try rfl) (⟨by rw [decide_eq_false (fun h => h.2.2 (by rw [h17]; simp [wordsL]))], H.below 0 rfl⟩)
            ·
              refine l_rd rfl rfl (x_assign (by conv => lhs; whnf)) ?_
              refine WL.nil ?_
              refine WC.cond0 rfl ?_
              refine WC.seq ?_
              refine WC.region ?_
              refine l_rdD rfl rfl (x_eqlS rfl rfl) (fun h18 => ?_) (fun h18 => ?_)
              ·
                refine l_rd rfl rfl (x_assign (by conv => lhs; whnf)) ?_
                refine WL.nil ?_
                refine WC.cond1 rfl ?_
                refine WC.skip ?_
                refine WC.cond1 rfl ?_
                refine WC.seq ?_
                refine WC.region ?_
                refine l_rd rfl rfl (x_assign ev_c) ?_
                refine WL.nil ?_
                refine WC.ret ?_
                refine atRet ?_
                exact RetM.one rfl (by (conv => lhs; whnf); try rfl) (⟨by rw [decide_eq_false (fun h => h.2.2 (by rw [h18]; simp [wordsL]))], H.below 0 rfl⟩)
              ·
                refine l_rd rfl rfl (x_assign (by conv => lhs; whnf)) ?_
                refine WL.nil ?_
                refine WC.cond0 rfl ?_
                refine WC.seq ?_
                refine WC.region ?_
                refine l_rdD rfl rfl (x_eqlS rfl rfl) (fun h19 => ?_) (fun h19 => ?_)
                ·
                  refine l_rd rfl rfl (x_assign (by conv => lhs; whnf)) ?_
                  refine WL.nil ?_
                  refine WC.cond1 rfl ?_
                  refine WC.skip ?_
                  refine WC.cond1 rfl ?_
                  refine WC.seq ?_
                  refine WC.region ?_
                  refine l_rd rfl rfl (x_assign ev_c) ?_
                  refine WL.nil ?_
                  refine WC.ret ?_
                  refine atRet ?_
                  exact RetM.one rfl (by (conv => lhs; whnf); try rfl) (⟨by rw [decide_eq_false (fun h => h.2.2 (by rw [h19]; simp [wordsL]))], H.below 0 rfl⟩)
                ·
                  refine l_rd rfl rfl (x_assign (by conv => lhs; whnf)) ?_
                  refine WL.nil ?_
                  refine WC.cond0 rfl ?_
                  refine WC.region ?_
                  refine l_rdD rfl rfl (x_eqlS rfl rfl) (fun h20 => ?_) (fun h20 => ?_)
                  ·
                    refine l_rd rfl rfl (x_assign (by conv => lhs; whnf)) ?_
                    refine WL.nil ?_
                    refine WC.cond1 rfl ?_
                    refine WC.seq ?_
                    refine WC.region ?_
                    refine l_rd rfl rfl (x_assign ev_c) ?_
                    refine WL.nil ?_
                    refine WC.ret ?_
                    refine atRet ?_
                    exact RetM.one rfl (by (conv => lhs; whnf); try rfl) (⟨by rw [decide_eq_false (fun h => h.2.2 (by rw [h20]; simp [wordsL]))], H.below 0 rfl⟩)
                  ·
                    refine l_rd rfl rfl (x_assign (by conv => lhs; whnf)) ?_
                    refine WL.nil ?_
                    refine WC.cond0 rfl ?_
                    refine WC.skip ?_
                    refine WC.seq ?_
                    refine WC.region ?_
                    refine l_rd rfl rfl (x_assign ev_c) ?_
                    refine WL.nil ?_
                    refine WC.ret ?_
                    refine atRet ?_
                    exact RetM.one rfl (by (conv => lhs; whnf); try rfl) (⟨by rw [decide_eq_true ⟨h4, ⟨hs1, h9⟩, no_word h14 h15 h16 h17 h18 h19 h20⟩], H.below 0 rfl⟩)
    ·
      obtain rfl : r = .bool false := by rw [hr1, decide_eq_false h9]
      refine l_gy (wantY rfl rfl rfl) rfl rfl (x_not rfl) ?_
      refine l_rd rfl rfl (x_pick0 rfl (by conv => lhs; whnf)) ?_
      refine WL.nil ?_
      refine WC.cond1 rfl ?_
      refine WC.seq ?_
      refine WC.region ?_
      refine l_rd rfl rfl (x_assign ev_c) ?_
      refine WL.nil ?_
      refine WC.ret ?_
      refine atRet ?_
      exact RetM.one rfl (by (conv => lhs; whnf); try rfl) (⟨by rw [decide_eq_false (fun h => h9 (by obtain ⟨_, q⟩ := h.2.1; exact q))], H.below 0 rfl⟩)
  ·
    obtain rfl : r = .bool false := by rw [hr1, decide_eq_false h4]
    refine l_rd rfl rfl (x_not rfl) ?_
    refine l_rd rfl rfl (x_move (by conv => lhs; whnf)) ?_
    refine l_gn (wantN rfl rfl rfl) rfl ?_
    refine l_gn (wantN rfl rfl rfl) rfl ?_
    refine l_gn (wantN rfl rfl rfl) rfl ?_
    refine l_gn (wantN rfl rfl rfl) rfl ?_
    refine l_rd rfl rfl (x_pick1 rfl ev_c) ?_
    refine WL.nil ?_
    refine WC.cond1 rfl ?_
    refine WC.seq ?_
    refine WC.region ?_
    refine l_rd rfl rfl (x_assign ev_c) ?_
    refine WL.nil ?_
    refine WC.ret ?_
    refine atRet ?_
    exact RetM.one rfl (by (conv => lhs; whnf); try rfl) (⟨by rw [decide_eq_false (fun h => h4 h.1)], H.below 0 rfl⟩)

theorem c54 {x : ByteArray} (w : World) : CC Try.prog 54 [S x].toArray w (fun r w' => r = .bool (decide (fre x)) ∧ Ext w w') := by
  obtain ⟨w0, e0⟩ : ∃ w0, w0 = w := ⟨w, rfl⟩
  subst e0
  have H := Hd.start w0
  refine CC.of (N := 19) Try.func54 rfl rfl rfl ?_
  refine WC.seq ?_
  refine WC.region ?_
  refine l_rd rfl rfl (x_assign ev_c) ?_
  refine WL.nil ?_
  refine WC.seq ?_
  refine WC.region ?_
  refine l_st rfl (s_buildN (xs := [.const (.string ⟨#[97, 115]⟩), .const (.string ⟨#[109, 97, 116, 99, 104]⟩), .const (.string ⟨#[119, 104, 101, 114, 101]⟩), .const (.string ⟨#[97, 110, 100]⟩), .const (.string ⟨#[114, 101, 116, 117, 114, 110]⟩), .const (.string ⟨#[114, 97, 110, 103, 101]⟩), .const (.string ⟨#[115, 108, 105, 100, 101]⟩)]) (vs := wordsL.map S) Try.underlying102 ty9 rfl rfl rfl rfl (by decide) (by decide) (fun v hv => by obtain ⟨x, _, rfl⟩ := List.mem_map.1 hv; rfl) H fun b4 w H => ?_)
  refine l_rd rfl rfl (x_assign (by conv => lhs; whnf)) ?_
  refine WL.nil ?_
  refine WC.seq ?_
  refine WC.region ?_
  refine l_rd rfl rfl (x_move (by conv => lhs; whnf)) ?_
  refine l_st rfl (s_callL cal53 (c53 _) ?_)
  rintro r w ⟨hr1, e1⟩
  have H := H.ext e1
  by_cases h6 : vtx x
  ·
    obtain rfl : r = .bool true := by rw [hr1, decide_eq_true h6]
    have hs1 : 0 < x.size := h6.2.1
    refine l_rd rfl rfl (x_move (by conv => lhs; whnf)) ?_
    refine l_gy (wantY rfl rfl rfl) rfl rfl (x_move (by conv => lhs; whnf)) ?_
    refine l_gy (wantY rfl rfl rfl) rfl rfl (x_indexS Try.underlying9 rfl rfl (by omega) (by omega)) ?_
    refine l_gy (wantY rfl rfl rfl) rfl rfl (x_convI Try.underlying5 Try.underlying21 rfl) ?_
    refine l_gst (wantY rfl rfl rfl) rfl (s_callL cal73 (c73 (x := IntKind.i32.wrap (((x[0]'hs1).toNat : Nat) : Int)) _) ?_)
    rintro r w ⟨hr1, e1⟩
    have H := H.ext e1
    rw [i32_b] at hr1
    by_cases h11 : (97 : Int) ≤ (((x[0]'hs1).toNat : Nat) : Int) ∧ (((x[0]'hs1).toNat : Nat) : Int) ≤ 122
    ·
      obtain rfl : r = .bool true := by rw [hr1, decide_eq_true h11]
      refine l_rd rfl rfl (x_pick1 rfl (by conv => lhs; whnf)) ?_
      refine l_rd rfl rfl (x_move (by conv => lhs; whnf)) ?_
      refine l_gy (wantY rfl rfl rfl) rfl rfl (x_move (by conv => lhs; whnf)) ?_
      refine l_gy (wantY rfl rfl rfl) rfl rfl (x_move (by conv => lhs; whnf)) ?_
      refine l_gst (wantY rfl rfl rfl) rfl (s_callL cal74 (c74 (ts := wordsL) _ (H.sl 0 rfl)) ?_)
      rintro r w ⟨hr1, e1⟩
      have H := H.ext e1
      by_cases h16 : x ∈ wordsL
      ·
        obtain rfl : r = .bool true := by rw [hr1, decide_eq_true h16]
        refine l_gy (wantY rfl rfl rfl) rfl rfl (x_not rfl) ?_
        refine l_rd rfl rfl (x_pick1 rfl (by conv => lhs; whnf)) ?_
        refine l_rd rfl rfl (x_assign (by conv => lhs; whnf)) ?_
        refine WL.nil ?_
        refine WC.ret ?_
        refine atRet ?_
        exact RetM.one (v := .bool false) rfl rfl ⟨by rw [decide_eq_false (fun h => h.2.2 h16)], H.below 1 rfl⟩
      ·
        obtain rfl : r = .bool false := by rw [hr1, decide_eq_false h16]
        refine l_gy (wantY rfl rfl rfl) rfl rfl (x_not rfl) ?_
        refine l_rd rfl rfl (x_pick1 rfl (by conv => lhs; whnf)) ?_
        refine l_rd rfl rfl (x_assign (by conv => lhs; whnf)) ?_
        refine WL.nil ?_
        refine WC.ret ?_
        refine atRet ?_
        exact RetM.one (v := .bool true) rfl rfl ⟨by rw [decide_eq_true ⟨h6, ⟨hs1, h11⟩, h16⟩], H.below 1 rfl⟩
    ·
      obtain rfl : r = .bool false := by rw [hr1, decide_eq_false h11]
      refine l_rd rfl rfl (x_pick1 rfl (by conv => lhs; whnf)) ?_
      refine l_rd rfl rfl (x_move (by conv => lhs; whnf)) ?_
      refine l_gn (wantN rfl rfl rfl) rfl ?_
      refine l_gn (wantN rfl rfl rfl) rfl ?_
      refine l_gn (wantN rfl rfl rfl) rfl ?_
      refine l_gn (wantN rfl rfl rfl) rfl ?_
      refine l_rd rfl rfl (x_pick0 rfl ev_c) ?_
      refine l_rd rfl rfl (x_assign (by conv => lhs; whnf)) ?_
      refine WL.nil ?_
      refine WC.ret ?_
      refine atRet ?_
      exact RetM.one (v := .bool false) rfl rfl ⟨by rw [decide_eq_false (fun h => h11 (by obtain ⟨_, q⟩ := h.2.1; exact q))], H.below 1 rfl⟩
  ·
    obtain rfl : r = .bool false := by rw [hr1, decide_eq_false h6]
    refine l_rd rfl rfl (x_move (by conv => lhs; whnf)) ?_
    refine l_gn (wantN rfl rfl rfl) rfl ?_
    refine l_gn (wantN rfl rfl rfl) rfl ?_
    refine l_gn (wantN rfl rfl rfl) rfl ?_
    refine l_gn (wantN rfl rfl rfl) rfl ?_
    refine l_rd rfl rfl (x_pick0 rfl ev_c) ?_
    refine l_rd rfl rfl (x_move (by conv => lhs; whnf)) ?_
    refine l_gn (wantN rfl rfl rfl) rfl ?_
    refine l_gn (wantN rfl rfl rfl) rfl ?_
    refine l_gn (wantN rfl rfl rfl) rfl ?_
    refine l_gn (wantN rfl rfl rfl) rfl ?_
    refine l_rd rfl rfl (x_pick0 rfl ev_c) ?_
    refine l_rd rfl rfl (x_assign (by conv => lhs; whnf)) ?_
    refine WL.nil ?_
    refine WC.ret ?_
    refine atRet ?_
    exact RetM.one (v := .bool false) rfl rfl ⟨by rw [decide_eq_false (fun h => h6 h.1)], H.below 1 rfl⟩

end Go.Proofs.Ytahdodijpmkddaa
set_option linter.unusedVariables false
set_option linter.unusedSimpArgs false
namespace Go.Proofs.Ytahdodijpmkddaa
open Go Go.RowKit KE Go.Proofs
theorem ty82 : Ty Try.prog 82 (.int .i64 0) 1 8 := Ty.of (by kernel_rfl)
theorem cal76 : Cal Try.prog 76 := ⟨_, Try.func76, rfl, by decide⟩
theorem cal90 : Cal Try.prog 90 := ⟨_, Try.func90, rfl, by decide⟩

def plb (x : Int) : Prop := 32 ≤ x ∧ x ≤ 126 ∧ x ≠ 34 ∧ x ≠ 92
def pln (x : ByteArray) : Prop := ∀ (i : Nat) (h : i < x.size), plb ((x[i].toNat : Nat) : Int)
noncomputable instance (x : ByteArray) : Decidable (pln x) := Classical.propDecidable _
def rgt (p : Pr) : Prop := if p.kind = 1 then p.text = ⟨#[]⟩ ∧ -1099511627776 ≤ p.num ∧ p.num ≤ 1099511627776 else p.kind = 2 ∧ p.num = 0 ∧ p.text.size ≤ 40 ∧ pln p.text
noncomputable instance (p : Pr) : Decidable (rgt p) := Classical.propDecidable _
theorem c90 {x : ByteArray} (w : World) (hsz : x.size ≤ 140737488355328) : CC Try.prog 90 [S x].toArray w (fun r w' => r = .bool (decide (pln x)) ∧ Ext w w') := by
  obtain ⟨w0, e0⟩ : ∃ w0, w0 = w := ⟨w, rfl⟩
  subst e0
  have H := Hd.start w0
  refine CC.of (N := 28) Try.func90 rfl rfl rfl ?_
  refine WC.seq ?_
  refine WC.region ?_
  refine l_rd rfl rfl (x_assign ev_c) ?_
  refine WL.nil ?_
  refine WC.seq ?_
  refine WC.seq ?_
  refine WC.region ?_
  refine l_rd rfl rfl (x_move (by conv => lhs; whnf)) ?_
  refine l_rd rfl rfl (x_lenStr Try.underlying9 rfl rfl) ?_
  refine l_rd rfl rfl (x_move ev_c) ?_
  refine WL.nil ?_
  refine WC.block ?_
  refine WC.loop (fun ρ ds w => ∃ k : Nat, k ≤ x.size ∧ (∀ (i : Nat) (h : i < x.size), i < k → plb ((x[i].toNat : Nat) : Int)) ∧ ρ 7 = I k ∧ ρ 6 = I x.size ∧ ρ 0 = S x ∧ ds = [] ∧ Hd (sy w0) w [fr w0]) (fun ρ w => x.size - (match ρ 7 with | .int _ k => k.toNat | _ => 0)) (⟨0, Nat.zero_le _, fun i _ h => absurd h (by omega), rfl, rfl, rfl, rfl, H⟩) ?_
  repeat clear H
  rintro ρ ds w ⟨k, hk, he, h7, h6, h0, rfl, H⟩
  refine WC.seq ?_
  refine WC.region ?_
  refine l_rdD rfl rfl (x_lss h7 h6) (fun h8 => ?_) (fun h8 => ?_)
  ·
    refine WL.nil ?_
    refine WC.seq ?_
    refine WC.cond1 rfl ?_
    refine WC.skip ?_
    refine WC.seq ?_
    refine WC.block ?_
    refine WC.seq ?_
    refine WC.region ?_
    refine l_rd rfl rfl (x_move h7) ?_
    refine l_rd rfl rfl (x_assign (by conv => lhs; whnf)) ?_
    refine WL.nil ?_
    refine WC.seq ?_
    have hkx : k < x.size := by omega
    refine WC.region ?_
    refine l_rd rfl rfl (x_move h0) ?_
    refine l_rd rfl rfl (x_move (by conv => lhs; whnf)) ?_
    refine l_rd rfl rfl (x_indexSN Try.underlying9 rfl rfl (by omega)) ?_
    refine l_rd rfl rfl (x_assign (by conv => lhs; whnf)) ?_
    refine WL.nil ?_
    refine WC.seq ?_
    refine WC.region ?_
    refine l_rd rfl rfl (x_move (by conv => lhs; whnf)) ?_
    refine l_rdD rfl rfl (x_lss rfl rfl) (fun h14 => ?_) (fun h14 => ?_)
    ·
      refine l_rd rfl rfl (x_move (by conv => lhs; whnf)) ?_
      refine l_gn (wantN rfl rfl rfl) rfl ?_
      refine l_gn (wantN rfl rfl rfl) rfl ?_
      refine l_rd rfl rfl (x_pick1 rfl ev_c) ?_
      refine l_rd rfl rfl (x_move (by conv => lhs; whnf)) ?_
      refine l_gn (wantN rfl rfl rfl) rfl ?_
      refine l_gn (wantN rfl rfl rfl) rfl ?_
      refine l_rd rfl rfl (x_pick1 rfl ev_c) ?_
      refine l_rd rfl rfl (x_move (by conv => lhs; whnf)) ?_
      refine l_gn (wantN rfl rfl rfl) rfl ?_
      refine l_gn (wantN rfl rfl rfl) rfl ?_
      refine l_rd rfl rfl (x_pick1 rfl ev_c) ?_
      refine WL.nil ?_
      refine WC.cond1 rfl ?_
      refine WC.seq ?_
      refine WC.region ?_
      refine l_rd rfl rfl (x_assign ev_c) ?_
      refine WL.nil ?_
      refine WC.ret ?_
      refine atRet ?_
      exact RetM.one rfl (by (conv => lhs; whnf); try rfl) (⟨by rw [decide_eq_false (fun h => by have h2 := h k hkx; unfold plb at h2; omega)], H.below 0 rfl⟩)
    ·
      refine l_rd rfl rfl (x_move (by conv => lhs; whnf)) ?_
      refine l_gy (wantY rfl rfl rfl) rfl rfl (x_move (by conv => lhs; whnf)) ?_
      refine l_gyD (wantY rfl rfl rfl) rfl rfl (x_gtr rfl rfl) (fun h17 => ?_) (fun h17 => ?_)
      ·
        refine l_rd rfl rfl (x_pick0 rfl (by conv => lhs; whnf)) ?_
        refine l_rd rfl rfl (x_move (by conv => lhs; whnf)) ?_
        refine l_gn (wantN rfl rfl rfl) rfl ?_
        refine l_gn (wantN rfl rfl rfl) rfl ?_
        refine l_rd rfl rfl (x_pick1 rfl ev_c) ?_
        refine l_rd rfl rfl (x_move (by conv => lhs; whnf)) ?_
        refine l_gn (wantN rfl rfl rfl) rfl ?_
        refine l_gn (wantN rfl rfl rfl) rfl ?_
        refine l_rd rfl rfl (x_pick1 rfl ev_c) ?_
        refine WL.nil ?_
        refine WC.cond1 rfl ?_
        refine WC.seq ?_
        refine WC.region ?_
        refine l_rd rfl rfl (x_assign ev_c) ?_
        refine WL.nil ?_
        refine WC.ret ?_
        refine atRet ?_
        exact RetM.one rfl (by (conv => lhs; whnf); try rfl) (⟨by rw [decide_eq_false (fun h => by have h2 := h k hkx; unfold plb at h2; omega)], H.below 0 rfl⟩)
      ·
        refine l_rd rfl rfl (x_pick0 rfl (by conv => lhs; whnf)) ?_
        refine l_rd rfl rfl (x_move (by conv => lhs; whnf)) ?_
        refine l_gy (wantY rfl rfl rfl) rfl rfl (x_move (by conv => lhs; whnf)) ?_
        refine l_gyD (wantY rfl rfl rfl) rfl rfl (x_eql rfl rfl) (fun h21 => ?_) (fun h21 => ?_)
        ·
          refine l_rd rfl rfl (x_pick0 rfl (by conv => lhs; whnf)) ?_
          refine l_rd rfl rfl (x_move (by conv => lhs; whnf)) ?_
          refine l_gn (wantN rfl rfl rfl) rfl ?_
          refine l_gn (wantN rfl rfl rfl) rfl ?_
          refine l_rd rfl rfl (x_pick1 rfl ev_c) ?_
          refine WL.nil ?_
          refine WC.cond1 rfl ?_
          refine WC.seq ?_
          refine WC.region ?_
          refine l_rd rfl rfl (x_assign ev_c) ?_
          refine WL.nil ?_
          refine WC.ret ?_
          refine atRet ?_
          exact RetM.one rfl (by (conv => lhs; whnf); try rfl) (⟨by rw [decide_eq_false (fun h => by have h2 := h k hkx; unfold plb at h2; omega)], H.below 0 rfl⟩)
        ·
          refine l_rd rfl rfl (x_pick0 rfl (by conv => lhs; whnf)) ?_
          refine l_rd rfl rfl (x_move (by conv => lhs; whnf)) ?_
          refine l_gy (wantY rfl rfl rfl) rfl rfl (x_move (by conv => lhs; whnf)) ?_
          refine l_gyD (wantY rfl rfl rfl) rfl rfl (x_eql rfl rfl) (fun h25 => ?_) (fun h25 => ?_)
          ·
            refine l_rd rfl rfl (x_pick0 rfl (by conv => lhs; whnf)) ?_
            refine WL.nil ?_
            refine WC.cond1 rfl ?_
            refine WC.seq ?_
            refine WC.region ?_
            refine l_rd rfl rfl (x_assign ev_c) ?_
            refine WL.nil ?_
            refine WC.ret ?_
            refine atRet ?_
            exact RetM.one rfl (by (conv => lhs; whnf); try rfl) (⟨by rw [decide_eq_false (fun h => by have h2 := h k hkx; unfold plb at h2; omega)], H.below 0 rfl⟩)
          ·
            refine l_rd rfl rfl (x_pick0 rfl (by conv => lhs; whnf)) ?_
            refine WL.nil ?_
            refine WC.cond0 rfl ?_
            refine WC.skip ?_
            refine WC.region ?_
            refine l_rd rfl rfl (x_add h7 rfl (by omega) (by omega)) ?_
            refine l_rd rfl rfl (x_move (by conv => lhs; whnf)) ?_
            refine WL.nil ?_
            refine WC.again (⟨k + 1, by omega, fun i hi hik => by
                  by_cases e : i = k
                  · subst e; unfold plb; omega
                  · exact he i hi (by omega), rfl, h6, h0, rfl, H⟩) (by show _ - _ < _ - _; rw [h7]; show x.size - ((k : Int) + 1).toNat < x.size - (k : Int).toNat; omega)
  ·
    refine WL.nil ?_
    refine WC.seq ?_
    refine WC.cond0 rfl ?_
    refine WC.exit ?_
    refine WC.seq ?_
    refine WC.region ?_
    refine l_rd rfl rfl (x_assign ev_c) ?_
    refine WL.nil ?_
    refine WC.ret ?_
    refine atRet ?_
    exact RetM.one rfl (by (conv => lhs; whnf); try rfl) (⟨by rw [decide_eq_true (show pln x from fun i hi => he i hi (by omega))], H.below 0 rfl⟩)

theorem c75 {p : Pr} (w : World) (hsz : p.text.size ≤ 140737488355328) : CC Try.prog 75 [.agg #[I p.kind, I p.num, S p.text]].toArray w (fun r w' => r = .bool (decide (rgt p)) ∧ Ext w w') := by
  obtain ⟨w0, e0⟩ : ∃ w0, w0 = w := ⟨w, rfl⟩
  subst e0
  have H := Hd.start w0
  refine CC.of (N := 36) Try.func75 rfl rfl rfl ?_
  refine WC.seq ?_
  refine WC.region ?_
  refine l_st rfl (s_box (by conv => lhs; whnf) H fun b1 w H => ?_)
  refine l_rd rfl rfl (x_assign ev_c) ?_
  refine WL.nil ?_
  refine WC.seq ?_
  refine WC.seq ?_
  refine WC.region ?_
  refine l_rd rfl rfl (x_fieldAddr Try.underlying84 rfl rfl ty82 (by decide) rfl) ?_
  refine l_rd rfl rfl (x_load Try.underlying82 rfl rfl (H.cellL 0 rfl rfl)) ?_
  refine WL.nil ?_
  refine WC.block ?_
  refine WC.seq ?_
  refine WC.region ?_
  refine l_rdD rfl rfl (x_eql rfl rfl) (fun h6 => ?_) (fun h6 => ?_)
  ·
    refine l_rd rfl rfl (x_assign (by conv => lhs; whnf)) ?_
    refine WL.nil ?_
    refine WC.cond1 rfl ?_
    refine WC.seq ?_
    refine WC.region ?_
    refine l_rd rfl rfl (x_fieldAddr Try.underlying84 rfl rfl ty9 (by decide) rfl) ?_
    refine l_rd rfl rfl (x_load Try.underlying9 rfl rfl (H.cellL 0 rfl rfl)) ?_
    refine l_rdD rfl rfl (x_eqlS rfl rfl) (fun h9 => ?_) (fun h9 => ?_)
    ·
      refine l_rd rfl rfl (x_move (by conv => lhs; whnf)) ?_
      refine l_gy (wantY rfl rfl rfl) rfl rfl (x_fieldAddr Try.underlying84 rfl rfl ty3 (by decide) rfl) ?_
      refine l_gy (wantY rfl rfl rfl) rfl rfl (x_load Try.underlying3 rfl rfl (H.cellL 0 rfl rfl)) ?_
      refine l_gyD (wantY rfl rfl rfl) rfl rfl (x_geq rfl rfl) (fun h13 => ?_) (fun h13 => ?_)
      ·
        refine l_rd rfl rfl (x_pick1 rfl (by conv => lhs; whnf)) ?_
        refine l_rd rfl rfl (x_move (by conv => lhs; whnf)) ?_
        refine l_gy (wantY rfl rfl rfl) rfl rfl (x_fieldAddr Try.underlying84 rfl rfl ty3 (by decide) rfl) ?_
        refine l_gy (wantY rfl rfl rfl) rfl rfl (x_load Try.underlying3 rfl rfl (H.cellL 0 rfl rfl)) ?_
        refine l_gyD (wantY rfl rfl rfl) rfl rfl (x_leq rfl rfl) (fun h18 => ?_) (fun h18 => ?_)
        ·
          refine l_rd rfl rfl (x_pick1 rfl (by conv => lhs; whnf)) ?_
          refine l_rd rfl rfl (x_assign (by conv => lhs; whnf)) ?_
          refine WL.nil ?_
          refine WC.ret ?_
          refine atRet ?_
          exact RetM.one rfl (by (conv => lhs; whnf); try rfl) (⟨by rw [decide_eq_true (by unfold rgt; rw [if_pos h6]; exact ⟨h9, by omega, by omega⟩)], H.below 1 rfl⟩)
        ·
          refine l_rd rfl rfl (x_pick1 rfl (by conv => lhs; whnf)) ?_
          refine l_rd rfl rfl (x_assign (by conv => lhs; whnf)) ?_
          refine WL.nil ?_
          refine WC.ret ?_
          refine atRet ?_
          exact RetM.one rfl (by (conv => lhs; whnf); try rfl) (⟨by rw [decide_eq_false (by unfold rgt; rw [if_pos h6]; rintro ⟨_, _, _⟩; omega)], H.below 1 rfl⟩)
      ·
        refine l_rd rfl rfl (x_pick1 rfl (by conv => lhs; whnf)) ?_
        refine l_rd rfl rfl (x_move (by conv => lhs; whnf)) ?_
        refine l_gn (wantN rfl rfl rfl) rfl ?_
        refine l_gn (wantN rfl rfl rfl) rfl ?_
        refine l_gn (wantN rfl rfl rfl) rfl ?_
        refine l_rd rfl rfl (x_pick0 rfl ev_c) ?_
        refine l_rd rfl rfl (x_assign (by conv => lhs; whnf)) ?_
        refine WL.nil ?_
        refine WC.ret ?_
        refine atRet ?_
        exact RetM.one rfl (by (conv => lhs; whnf); try rfl) (⟨by rw [decide_eq_false (by unfold rgt; rw [if_pos h6]; rintro ⟨_, _, _⟩; omega)], H.below 1 rfl⟩)
    ·
      refine l_rd rfl rfl (x_move (by conv => lhs; whnf)) ?_
      refine l_gn (wantN rfl rfl rfl) rfl ?_
      refine l_gn (wantN rfl rfl rfl) rfl ?_
      refine l_gn (wantN rfl rfl rfl) rfl ?_
      refine l_rd rfl rfl (x_pick0 rfl ev_c) ?_
      refine l_rd rfl rfl (x_move (by conv => lhs; whnf)) ?_
      refine l_gn (wantN rfl rfl rfl) rfl ?_
      refine l_gn (wantN rfl rfl rfl) rfl ?_
      refine l_gn (wantN rfl rfl rfl) rfl ?_
      refine l_rd rfl rfl (x_pick0 rfl ev_c) ?_
      refine l_rd rfl rfl (x_assign (by conv => lhs; whnf)) ?_
      refine WL.nil ?_
      refine WC.ret ?_
      refine atRet ?_
      exact RetM.one rfl (by (conv => lhs; whnf); try rfl) (⟨by rw [decide_eq_false (by unfold rgt; rw [if_pos h6]; exact fun q => h9 q.1)], H.below 1 rfl⟩)
  ·
    refine l_rd rfl rfl (x_assign (by conv => lhs; whnf)) ?_
    refine WL.nil ?_
    refine WC.cond0 rfl ?_
    refine WC.seq ?_
    refine WC.region ?_
    refine l_rdD rfl rfl (x_eql rfl rfl) (fun h21 => ?_) (fun h21 => ?_)
    ·
      refine l_rd rfl rfl (x_assign (by conv => lhs; whnf)) ?_
      refine WL.nil ?_
      refine WC.cond1 rfl ?_
      refine WC.seq ?_
      refine WC.region ?_
      refine l_rd rfl rfl (x_fieldAddr Try.underlying84 rfl rfl ty3 (by decide) rfl) ?_
      refine l_rd rfl rfl (x_load Try.underlying3 rfl rfl (H.cellL 0 rfl rfl)) ?_
      refine l_rdD rfl rfl (x_eql rfl rfl) (fun h24 => ?_) (fun h24 => ?_)
      ·
        refine l_rd rfl rfl (x_move (by conv => lhs; whnf)) ?_
        refine l_gy (wantY rfl rfl rfl) rfl rfl (x_fieldAddr Try.underlying84 rfl rfl ty9 (by decide) rfl) ?_
        refine l_gy (wantY rfl rfl rfl) rfl rfl (x_load Try.underlying9 rfl rfl (H.cellL 0 rfl rfl)) ?_
        refine l_gy (wantY rfl rfl rfl) rfl rfl (x_lenStr Try.underlying9 rfl rfl) ?_
        refine l_gyD (wantY rfl rfl rfl) rfl rfl (x_leq rfl rfl) (fun h29 => ?_) (fun h29 => ?_)
        ·
          refine l_rd rfl rfl (x_pick1 rfl (by conv => lhs; whnf)) ?_
          refine l_rd rfl rfl (x_move (by conv => lhs; whnf)) ?_
          refine l_gy (wantY rfl rfl rfl) rfl rfl (x_fieldAddr Try.underlying84 rfl rfl ty9 (by decide) rfl) ?_
          refine l_gy (wantY rfl rfl rfl) rfl rfl (x_load Try.underlying9 rfl rfl (H.cellL 0 rfl rfl)) ?_
          refine l_gst (wantY rfl rfl rfl) rfl (s_callL cal90 (c90 _ hsz) ?_)
          rintro r w ⟨hr1, e1⟩
          have H := H.ext e1
          by_cases h34 : pln p.text
          ·
            obtain rfl : r = .bool true := by rw [hr1, decide_eq_true h34]
            refine l_rd rfl rfl (x_pick1 rfl (by conv => lhs; whnf)) ?_
            refine l_rd rfl rfl (x_assign (by conv => lhs; whnf)) ?_
            refine WL.nil ?_
            refine WC.ret ?_
            refine atRet ?_
            exact RetM.one rfl (by (conv => lhs; whnf); try rfl) (⟨by rw [decide_eq_true (by unfold rgt; rw [if_neg h6]; exact ⟨h21, h24, by omega, h34⟩)], H.below 1 rfl⟩)
          ·
            obtain rfl : r = .bool false := by rw [hr1, decide_eq_false h34]
            refine l_rd rfl rfl (x_pick1 rfl (by conv => lhs; whnf)) ?_
            refine l_rd rfl rfl (x_assign (by conv => lhs; whnf)) ?_
            refine WL.nil ?_
            refine WC.ret ?_
            refine atRet ?_
            exact RetM.one rfl (by (conv => lhs; whnf); try rfl) (⟨by rw [decide_eq_false (by unfold rgt; rw [if_neg h6]; exact fun q => h34 q.2.2.2)], H.below 1 rfl⟩)
        ·
          refine l_rd rfl rfl (x_pick1 rfl (by conv => lhs; whnf)) ?_
          refine l_rd rfl rfl (x_move (by conv => lhs; whnf)) ?_
          refine l_gn (wantN rfl rfl rfl) rfl ?_
          refine l_gn (wantN rfl rfl rfl) rfl ?_
          refine l_gn (wantN rfl rfl rfl) rfl ?_
          refine l_rd rfl rfl (x_pick0 rfl ev_c) ?_
          refine l_rd rfl rfl (x_assign (by conv => lhs; whnf)) ?_
          refine WL.nil ?_
          refine WC.ret ?_
          refine atRet ?_
          exact RetM.one rfl (by (conv => lhs; whnf); try rfl) (⟨by rw [decide_eq_false (by unfold rgt; rw [if_neg h6]; rintro ⟨_, _, _, _⟩; omega)], H.below 1 rfl⟩)
      ·
        refine l_rd rfl rfl (x_move (by conv => lhs; whnf)) ?_
        refine l_gn (wantN rfl rfl rfl) rfl ?_
        refine l_gn (wantN rfl rfl rfl) rfl ?_
        refine l_gn (wantN rfl rfl rfl) rfl ?_
        refine l_gn (wantN rfl rfl rfl) rfl ?_
        refine l_rd rfl rfl (x_pick0 rfl ev_c) ?_
        refine l_rd rfl rfl (x_move (by conv => lhs; whnf)) ?_
        refine l_gn (wantN rfl rfl rfl) rfl ?_
        refine l_gn (wantN rfl rfl rfl) rfl ?_
        refine l_gn (wantN rfl rfl rfl) rfl ?_
        refine l_rd rfl rfl (x_pick0 rfl ev_c) ?_
        refine l_rd rfl rfl (x_assign (by conv => lhs; whnf)) ?_
        refine WL.nil ?_
        refine WC.ret ?_
        refine atRet ?_
        exact RetM.one rfl (by (conv => lhs; whnf); try rfl) (⟨by rw [decide_eq_false (by unfold rgt; rw [if_neg h6]; exact fun q => h24 q.2.1)], H.below 1 rfl⟩)
    ·
      refine l_rd rfl rfl (x_assign (by conv => lhs; whnf)) ?_
      refine WL.nil ?_
      refine WC.cond0 rfl ?_
      refine WC.skip ?_
      refine WC.seq ?_
      refine WC.region ?_
      refine l_rd rfl rfl (x_assign ev_c) ?_
      refine WL.nil ?_
      refine WC.ret ?_
      refine atRet ?_
      exact RetM.one rfl (by (conv => lhs; whnf); try rfl) (⟨by rw [decide_eq_false (by unfold rgt; rw [if_neg h6]; exact fun q => h21 q.1)], H.below 1 rfl⟩)

theorem c76 {lo hi : Int} {v : Value} {xs : List Int} (w : World) (hx : RdL w v I xs) : CC Try.prog 76 [I lo, I hi, v].toArray w (fun r w' => r = .bool (decide (∀ y ∈ xs, lo ≤ y ∧ y ≤ hi)) ∧ Ext w w') := by
  obtain ⟨w0, e0⟩ : ∃ w0, w0 = w := ⟨w, rfl⟩
  subst e0
  have H := Hd.start w0
  obtain ⟨a, c, rfl⟩ := hx.shape
  have hle := hx.le
  refine CC.of (N := 24) Try.func76 rfl rfl rfl ?_
  refine WC.seq ?_
  refine WC.region ?_
  refine l_rd rfl rfl (x_assign ev_c) ?_
  refine WL.nil ?_
  refine WC.seq ?_
  refine WC.seq ?_
  refine WC.region ?_
  refine l_rd rfl rfl (x_move (by conv => lhs; whnf)) ?_
  refine l_rd rfl rfl (x_lenSlice Try.underlying112 rfl rfl) ?_
  refine l_rd rfl rfl (x_move ev_c) ?_
  refine WL.nil ?_
  refine WC.block ?_
  refine WC.loop (fun ρ ds w => ∃ k : Nat, k ≤ xs.length ∧ (∀ j y, j < k → xs[j]? = some y → lo ≤ y ∧ y ≤ hi) ∧ ρ 11 = I k ∧ ρ 10 = I xs.length ∧ ρ 9 = .slice a xs.length c ∧ ρ 0 = I lo ∧ ρ 1 = I hi ∧ ds = [] ∧ Hd (sy w0) w [fr w0]) (fun ρ w => xs.length - (match ρ 11 with | .int _ k => k.toNat | _ => 0)) (⟨0, Nat.zero_le _, fun j y h => absurd h (by omega), rfl, rfl, rfl, rfl, rfl, rfl, H⟩) ?_
  repeat clear H
  rintro ρ ds w ⟨k, hk, he, h11, h10, h9, h0, h1, rfl, H⟩
  refine WC.seq ?_
  refine WC.region ?_
  refine l_rdD rfl rfl (x_lss h11 h10) (fun h12 => ?_) (fun h12 => ?_)
  ·
    refine WL.nil ?_
    refine WC.seq ?_
    refine WC.cond1 rfl ?_
    refine WC.skip ?_
    refine WC.seq ?_
    refine WC.block ?_
    refine WC.seq ?_
    obtain ⟨x, hxk⟩ := lt_get (show k < xs.length by omega)
    obtain ⟨b1, o1, rfl, hc1⟩ := hx.el hxk
    refine WC.region ?_
    refine l_rd rfl rfl (x_indexAddr Try.underlying112 ty3 h9 h11 (by omega) (by omega)) ?_
    refine l_rd rfl rfl (x_load Try.underlying3 rfl rfl ((H.old 0 rfl).cell hc1)) ?_
    refine l_rd rfl rfl (x_assign (by conv => lhs; whnf)) ?_
    refine WL.nil ?_
    refine WC.seq ?_
    refine WC.region ?_
    refine l_rd rfl rfl (x_move (by conv => lhs; whnf)) ?_
    refine l_rd rfl rfl (x_move h0) ?_
    refine l_rdD rfl rfl (x_lss rfl rfl) (fun h17 => ?_) (fun h17 => ?_)
    ·
      refine l_rd rfl rfl (x_move (by conv => lhs; whnf)) ?_
      refine l_gn (wantN rfl rfl rfl) rfl ?_
      refine l_gn (wantN rfl rfl rfl) rfl ?_
      refine l_gn (wantN rfl rfl rfl) rfl ?_
      refine l_rd rfl rfl (x_pick1 rfl ev_c) ?_
      refine WL.nil ?_
      refine WC.cond1 rfl ?_
      refine WC.seq ?_
      refine WC.region ?_
      refine l_rd rfl rfl (x_assign ev_c) ?_
      refine WL.nil ?_
      refine WC.ret ?_
      refine atRet ?_
      exact RetM.one rfl (by (conv => lhs; whnf); try rfl) (⟨by rw [decide_eq_false (fun h => by have h2 := h x (List.mem_of_getElem? hxk); omega)], H.below 0 rfl⟩)
    ·
      refine l_rd rfl rfl (x_move (by conv => lhs; whnf)) ?_
      refine l_gy (wantY rfl rfl rfl) rfl rfl (x_move (by conv => lhs; whnf)) ?_
      refine l_gy (wantY rfl rfl rfl) rfl rfl (x_move h1) ?_
      refine l_gyD (wantY rfl rfl rfl) rfl rfl (x_gtr rfl rfl) (fun h21 => ?_) (fun h21 => ?_)
      ·
        refine l_rd rfl rfl (x_pick0 rfl (by conv => lhs; whnf)) ?_
        refine WL.nil ?_
        refine WC.cond1 rfl ?_
        refine WC.seq ?_
        refine WC.region ?_
        refine l_rd rfl rfl (x_assign ev_c) ?_
        refine WL.nil ?_
        refine WC.ret ?_
        refine atRet ?_
        exact RetM.one rfl (by (conv => lhs; whnf); try rfl) (⟨by rw [decide_eq_false (fun h => by have h2 := h x (List.mem_of_getElem? hxk); omega)], H.below 0 rfl⟩)
      ·
        refine l_rd rfl rfl (x_pick0 rfl (by conv => lhs; whnf)) ?_
        refine WL.nil ?_
        refine WC.cond0 rfl ?_
        refine WC.skip ?_
        refine WC.region ?_
        refine l_rd rfl rfl (x_add h11 rfl (by omega) (by omega)) ?_
        refine l_rd rfl rfl (x_move (by conv => lhs; whnf)) ?_
        refine WL.nil ?_
        refine WC.again (⟨k + 1, by omega, fun j y hj hy => by
              by_cases e : j = k
              · subst e; rw [hxk] at hy; cases hy; omega
              · exact he j y (by omega) hy, rfl, h10, h9, h0, h1, rfl, H⟩) (by show _ - _ < _ - _; rw [h11]; show xs.length - ((k : Int) + 1).toNat < xs.length - (k : Int).toNat; omega)
  ·
    refine WL.nil ?_
    refine WC.seq ?_
    refine WC.cond0 rfl ?_
    refine WC.exit ?_
    refine WC.seq ?_
    refine WC.region ?_
    refine l_rd rfl rfl (x_assign ev_c) ?_
    refine WL.nil ?_
    refine WC.ret ?_
    refine atRet ?_
    exact RetM.one rfl (by (conv => lhs; whnf); try rfl) (⟨by rw [decide_eq_true (fun y hy => by obtain ⟨j, hj⟩ := List.getElem?_of_mem hy; exact he j y (by have := (List.getElem?_eq_some_iff.1 hj).1; omega) hj)], H.below 0 rfl⟩)

theorem c56 {x : Int} (w : World) : CC Try.prog 56 [I x].toArray w (fun r w' => r = .bool (decide (0 ≤ x ∧ x ≤ 1099511627776)) ∧ Ext w w') := by
  obtain ⟨w0, e0⟩ : ∃ w0, w0 = w := ⟨w, rfl⟩
  subst e0
  have H := Hd.start w0
  refine CC.of (N := 6) Try.func56 rfl rfl rfl ?_
  refine WC.seq ?_
  refine WC.region ?_
  refine l_rd rfl rfl (x_assign ev_c) ?_
  refine WL.nil ?_
  refine WC.seq ?_
  refine WC.region ?_
  refine l_rd rfl rfl (x_move (by conv => lhs; whnf)) ?_
  refine l_st rfl (s_build1 Try.underlying112 ty3 rfl (by conv => lhs; whnf) rfl H fun b4 w H => ?_)
  refine l_st rfl (s_callL cal76 (c76 (xs := [x]) _ (H.sl 0 rfl)) ?_)
  rintro _ w ⟨rfl, e1⟩
  have H := H.ext e1
  refine l_rd rfl rfl (x_assign (by conv => lhs; whnf)) ?_
  refine WL.nil ?_
  refine WC.ret ?_
  refine atRet ?_
  exact RetM.one rfl (by (conv => lhs; whnf); try rfl) (⟨by congr 1; exact decide_eq_decide.2 (by simp), H.below 1 rfl⟩)

theorem c65 {p : Pr} (w : World) (hsz : p.text.size ≤ 140737488355328) : CC Try.prog 65 [.agg #[I p.kind, I p.num, S p.text]].toArray w (fun r w' => r = .bool (decide (rgt p)) ∧ Ext w w') := by
  obtain ⟨w0, e0⟩ : ∃ w0, w0 = w := ⟨w, rfl⟩
  subst e0
  have H := Hd.start w0
  refine CC.of (N := 67) Try.func65 rfl rfl rfl ?_
  refine WC.seq ?_
  refine WC.region ?_
  refine l_st rfl (s_box (by conv => lhs; whnf) H fun b1 w H => ?_)
  refine l_rd rfl rfl (x_assign ev_c) ?_
  refine WL.nil ?_
  refine WC.seq ?_
  refine WC.seq ?_
  refine WC.region ?_
  refine l_rd rfl rfl (x_fieldAddr Try.underlying84 rfl rfl ty82 (by decide) rfl) ?_
  refine l_rd rfl rfl (x_load Try.underlying82 rfl rfl (H.cellL 0 rfl rfl)) ?_
  refine l_rdD rfl rfl (x_eql rfl rfl) (fun h6 => ?_) (fun h6 => ?_)
  ·
    refine WL.nil ?_
    refine WC.cond1 rfl ?_
    refine WC.seq ?_
    refine WC.region ?_
    refine l_rd rfl rfl (x_fieldAddr Try.underlying84 rfl rfl ty3 (by decide) rfl) ?_
    refine l_rd rfl rfl (x_load Try.underlying3 rfl rfl (H.cellL 0 rfl rfl)) ?_
    refine l_rdD rfl rfl (x_geq rfl rfl) (fun h9 => ?_) (fun h9 => ?_)
    ·
      refine l_rd rfl rfl (x_move (by conv => lhs; whnf)) ?_
      refine l_gy (wantY rfl rfl rfl) rfl rfl (x_fieldAddr Try.underlying84 rfl rfl ty3 (by decide) rfl) ?_
      refine l_gy (wantY rfl rfl rfl) rfl rfl (x_load Try.underlying3 rfl rfl (H.cellL 0 rfl rfl)) ?_
      refine l_gyD (wantY rfl rfl rfl) rfl rfl (x_leq rfl rfl) (fun h13 => ?_) (fun h13 => ?_)
      ·
        refine l_rd rfl rfl (x_pick1 rfl (by conv => lhs; whnf)) ?_
        refine l_rd rfl rfl (x_move (by conv => lhs; whnf)) ?_
        refine l_gy (wantY rfl rfl rfl) rfl rfl (x_fieldAddr Try.underlying84 rfl rfl ty9 (by decide) rfl) ?_
        refine l_gy (wantY rfl rfl rfl) rfl rfl (x_load Try.underlying9 rfl rfl (H.cellL 0 rfl rfl)) ?_
        refine l_gyD (wantY rfl rfl rfl) rfl rfl (x_eqlS rfl rfl) (fun h18 => ?_) (fun h18 => ?_)
        ·
          refine l_rd rfl rfl (x_pick1 rfl (by conv => lhs; whnf)) ?_
          refine l_rd rfl rfl (x_assign (by conv => lhs; whnf)) ?_
          refine WL.nil ?_
          refine WC.ret ?_
          refine atRet ?_
          exact RetM.one rfl (by (conv => lhs; whnf); try rfl) (⟨by rw [decide_eq_true (by unfold rgt; rw [if_pos h6]; exact ⟨h18, by omega, by omega⟩)], H.below 1 rfl⟩)
        ·
          refine l_rd rfl rfl (x_pick1 rfl (by conv => lhs; whnf)) ?_
          refine l_rd rfl rfl (x_assign (by conv => lhs; whnf)) ?_
          refine WL.nil ?_
          refine WC.ret ?_
          refine atRet ?_
          exact RetM.one rfl (by (conv => lhs; whnf); try rfl) (⟨by rw [decide_eq_false (by unfold rgt; rw [if_pos h6]; exact fun q => h18 q.1)], H.below 1 rfl⟩)
      ·
        refine l_rd rfl rfl (x_pick1 rfl (by conv => lhs; whnf)) ?_
        refine l_rd rfl rfl (x_move (by conv => lhs; whnf)) ?_
        refine l_gn (wantN rfl rfl rfl) rfl ?_
        refine l_gn (wantN rfl rfl rfl) rfl ?_
        refine l_gn (wantN rfl rfl rfl) rfl ?_
        refine l_rd rfl rfl (x_pick0 rfl ev_c) ?_
        refine l_rd rfl rfl (x_assign (by conv => lhs; whnf)) ?_
        refine WL.nil ?_
        refine WC.ret ?_
        refine atRet ?_
        exact RetM.one rfl (by (conv => lhs; whnf); try rfl) (⟨by rw [decide_eq_false (by unfold rgt; rw [if_pos h6]; rintro ⟨_, _, _⟩; omega)], H.below 1 rfl⟩)
    ·
      refine l_rd rfl rfl (x_move (by conv => lhs; whnf)) ?_
      refine l_gn (wantN rfl rfl rfl) rfl ?_
      refine l_gn (wantN rfl rfl rfl) rfl ?_
      refine l_gn (wantN rfl rfl rfl) rfl ?_
      refine l_rd rfl rfl (x_pick0 rfl ev_c) ?_
      refine l_rd rfl rfl (x_move (by conv => lhs; whnf)) ?_
      refine l_gn (wantN rfl rfl rfl) rfl ?_
      refine l_gn (wantN rfl rfl rfl) rfl ?_
      refine l_gn (wantN rfl rfl rfl) rfl ?_
      refine l_rd rfl rfl (x_pick0 rfl ev_c) ?_
      refine l_rd rfl rfl (x_assign (by conv => lhs; whnf)) ?_
      refine WL.nil ?_
      refine WC.ret ?_
      refine atRet ?_
      exact RetM.one rfl (by (conv => lhs; whnf); try rfl) (⟨by rw [decide_eq_false (by unfold rgt; rw [if_pos h6]; rintro ⟨_, _, _⟩; omega)], H.below 1 rfl⟩)
  ·
    refine WL.nil ?_
    refine WC.cond0 rfl ?_
    refine WC.skip ?_
    refine WC.seq ?_
    refine WC.seq ?_
    refine WC.region ?_
    refine l_rd rfl rfl (x_assign ev_c) ?_
    refine WL.nil ?_
    refine WC.block ?_
    refine WC.loop (fun ρ ds w => ∃ k : Nat, k ≤ p.text.size ∧ (∀ (i : Nat) (h : i < p.text.size), i < k → plb ((p.text[i].toNat : Nat) : Int)) ∧ ρ 3 = I k ∧ ρ 1 = .pointer (some ⟨b1, 0, none⟩) ∧ ds = [] ∧ Hd (sy w0) w [pt b1 (.cells #[I p.kind, I p.num, S p.text] 84 (0, 0)), fr w0]) (fun ρ w => p.text.size - (match ρ 3 with | .int _ k => k.toNat | _ => 0)) (⟨0, Nat.zero_le _, fun i _ h => absurd h (by omega), rfl, rfl, rfl, H⟩) ?_
    repeat clear H
    rintro ρ ds w ⟨k, hk, he, h3, h1, rfl, H⟩
    refine WC.seq ?_
    refine WC.seq ?_
    refine WC.region ?_
    refine l_rd rfl rfl (x_move h3) ?_
    refine l_rd rfl rfl (x_fieldAddr Try.underlying84 rfl rfl ty9 (by decide) h1) ?_
    refine l_rd rfl rfl (x_load Try.underlying9 rfl rfl (H.cellL 0 rfl rfl)) ?_
    refine l_rd rfl rfl (x_lenStr Try.underlying9 rfl rfl) ?_
    refine l_rdD rfl rfl (x_lss rfl rfl) (fun h24 => ?_) (fun h24 => ?_)
    ·
      refine WL.nil ?_
      refine WC.cond1 rfl ?_
      refine WC.skip ?_
      refine WC.seq ?_
      refine WC.block ?_
      refine WC.seq ?_
      have hkx : k < p.text.size := by omega
      refine WC.region ?_
      refine l_rd rfl rfl (x_fieldAddr Try.underlying84 rfl rfl ty9 (by decide) h1) ?_
      refine l_rd rfl rfl (x_load Try.underlying9 rfl rfl (H.cellL 0 rfl rfl)) ?_
      refine l_rd rfl rfl (x_move h3) ?_
      refine l_rd rfl rfl (x_indexSN Try.underlying9 rfl rfl (by omega)) ?_
      refine l_rdD rfl rfl (x_lss rfl rfl) (fun h31 => ?_) (fun h31 => ?_)
      ·
        refine l_rd rfl rfl (x_move (by conv => lhs; whnf)) ?_
        refine l_gn (wantN rfl rfl rfl) rfl ?_
        refine l_gn (wantN rfl rfl rfl) rfl ?_
        refine l_gn (wantN rfl rfl rfl) rfl ?_
        refine l_gn (wantN rfl rfl rfl) rfl ?_
        refine l_gn (wantN rfl rfl rfl) rfl ?_
        refine l_rd rfl rfl (x_pick1 rfl ev_c) ?_
        refine l_rd rfl rfl (x_move (by conv => lhs; whnf)) ?_
        refine l_gn (wantN rfl rfl rfl) rfl ?_
        refine l_gn (wantN rfl rfl rfl) rfl ?_
        refine l_gn (wantN rfl rfl rfl) rfl ?_
        refine l_gn (wantN rfl rfl rfl) rfl ?_
        refine l_gn (wantN rfl rfl rfl) rfl ?_
        refine l_rd rfl rfl (x_pick1 rfl ev_c) ?_
        refine l_rd rfl rfl (x_move (by conv => lhs; whnf)) ?_
        refine l_gn (wantN rfl rfl rfl) rfl ?_
        refine l_gn (wantN rfl rfl rfl) rfl ?_
        refine l_gn (wantN rfl rfl rfl) rfl ?_
        refine l_gn (wantN rfl rfl rfl) rfl ?_
        refine l_gn (wantN rfl rfl rfl) rfl ?_
        refine l_rd rfl rfl (x_pick1 rfl ev_c) ?_
        refine WL.nil ?_
        refine WC.cond1 rfl ?_
        refine WC.seq ?_
        refine WC.region ?_
        refine l_rd rfl rfl (x_assign ev_c) ?_
        refine WL.nil ?_
        refine WC.ret ?_
        refine atRet ?_
        exact RetM.one rfl (by (conv => lhs; whnf); try rfl) (⟨by rw [decide_eq_false (by unfold rgt; rw [if_neg h6]; exact fun q => by have h2 := q.2.2.2 k hkx; unfold plb at h2; omega)], H.below 1 rfl⟩)
      ·
        refine l_rd rfl rfl (x_move (by conv => lhs; whnf)) ?_
        refine l_gy (wantY rfl rfl rfl) rfl rfl (x_fieldAddr Try.underlying84 rfl rfl ty9 (by decide) h1) ?_
        refine l_gy (wantY rfl rfl rfl) rfl rfl (x_load Try.underlying9 rfl rfl (H.cellL 0 rfl rfl)) ?_
        refine l_gy (wantY rfl rfl rfl) rfl rfl (x_move h3) ?_
        refine l_gy (wantY rfl rfl rfl) rfl rfl (x_indexSN Try.underlying9 rfl rfl (by omega)) ?_
        refine l_gyD (wantY rfl rfl rfl) rfl rfl (x_gtr rfl rfl) (fun h37 => ?_) (fun h37 => ?_)
        ·
          refine l_rd rfl rfl (x_pick0 rfl (by conv => lhs; whnf)) ?_
          refine l_rd rfl rfl (x_move (by conv => lhs; whnf)) ?_
          refine l_gn (wantN rfl rfl rfl) rfl ?_
          refine l_gn (wantN rfl rfl rfl) rfl ?_
          refine l_gn (wantN rfl rfl rfl) rfl ?_
          refine l_gn (wantN rfl rfl rfl) rfl ?_
          refine l_gn (wantN rfl rfl rfl) rfl ?_
          refine l_rd rfl rfl (x_pick1 rfl ev_c) ?_
          refine l_rd rfl rfl (x_move (by conv => lhs; whnf)) ?_
          refine l_gn (wantN rfl rfl rfl) rfl ?_
          refine l_gn (wantN rfl rfl rfl) rfl ?_
          refine l_gn (wantN rfl rfl rfl) rfl ?_
          refine l_gn (wantN rfl rfl rfl) rfl ?_
          refine l_gn (wantN rfl rfl rfl) rfl ?_
          refine l_rd rfl rfl (x_pick1 rfl ev_c) ?_
          refine WL.nil ?_
          refine WC.cond1 rfl ?_
          refine WC.seq ?_
          refine WC.region ?_
          refine l_rd rfl rfl (x_assign ev_c) ?_
          refine WL.nil ?_
          refine WC.ret ?_
          refine atRet ?_
          exact RetM.one rfl (by (conv => lhs; whnf); try rfl) (⟨by rw [decide_eq_false (by unfold rgt; rw [if_neg h6]; exact fun q => by have h2 := q.2.2.2 k hkx; unfold plb at h2; omega)], H.below 1 rfl⟩)
        ·
          refine l_rd rfl rfl (x_pick0 rfl (by conv => lhs; whnf)) ?_
          refine l_rd rfl rfl (x_move (by conv => lhs; whnf)) ?_
          refine l_gy (wantY rfl rfl rfl) rfl rfl (x_fieldAddr Try.underlying84 rfl rfl ty9 (by decide) h1) ?_
          refine l_gy (wantY rfl rfl rfl) rfl rfl (x_load Try.underlying9 rfl rfl (H.cellL 0 rfl rfl)) ?_
          refine l_gy (wantY rfl rfl rfl) rfl rfl (x_move h3) ?_
          refine l_gy (wantY rfl rfl rfl) rfl rfl (x_indexSN Try.underlying9 rfl rfl (by omega)) ?_
          refine l_gyD (wantY rfl rfl rfl) rfl rfl (x_eql rfl rfl) (fun h44 => ?_) (fun h44 => ?_)
          ·
            refine l_rd rfl rfl (x_pick0 rfl (by conv => lhs; whnf)) ?_
            refine l_rd rfl rfl (x_move (by conv => lhs; whnf)) ?_
            refine l_gn (wantN rfl rfl rfl) rfl ?_
            refine l_gn (wantN rfl rfl rfl) rfl ?_
            refine l_gn (wantN rfl rfl rfl) rfl ?_
            refine l_gn (wantN rfl rfl rfl) rfl ?_
            refine l_gn (wantN rfl rfl rfl) rfl ?_
            refine l_rd rfl rfl (x_pick1 rfl ev_c) ?_
            refine WL.nil ?_
            refine WC.cond1 rfl ?_
            refine WC.seq ?_
            refine WC.region ?_
            refine l_rd rfl rfl (x_assign ev_c) ?_
            refine WL.nil ?_
            refine WC.ret ?_
            refine atRet ?_
            exact RetM.one rfl (by (conv => lhs; whnf); try rfl) (⟨by rw [decide_eq_false (by unfold rgt; rw [if_neg h6]; exact fun q => by have h2 := q.2.2.2 k hkx; unfold plb at h2; omega)], H.below 1 rfl⟩)
          ·
            refine l_rd rfl rfl (x_pick0 rfl (by conv => lhs; whnf)) ?_
            refine l_rd rfl rfl (x_move (by conv => lhs; whnf)) ?_
            refine l_gy (wantY rfl rfl rfl) rfl rfl (x_fieldAddr Try.underlying84 rfl rfl ty9 (by decide) h1) ?_
            refine l_gy (wantY rfl rfl rfl) rfl rfl (x_load Try.underlying9 rfl rfl (H.cellL 0 rfl rfl)) ?_
            refine l_gy (wantY rfl rfl rfl) rfl rfl (x_move h3) ?_
            refine l_gy (wantY rfl rfl rfl) rfl rfl (x_indexSN Try.underlying9 rfl rfl (by omega)) ?_
            refine l_gyD (wantY rfl rfl rfl) rfl rfl (x_eql rfl rfl) (fun h51 => ?_) (fun h51 => ?_)
            ·
              refine l_rd rfl rfl (x_pick0 rfl (by conv => lhs; whnf)) ?_
              refine WL.nil ?_
              refine WC.cond1 rfl ?_
              refine WC.seq ?_
              refine WC.region ?_
              refine l_rd rfl rfl (x_assign ev_c) ?_
              refine WL.nil ?_
              refine WC.ret ?_
              refine atRet ?_
              exact RetM.one rfl (by (conv => lhs; whnf); try rfl) (⟨by rw [decide_eq_false (by unfold rgt; rw [if_neg h6]; exact fun q => by have h2 := q.2.2.2 k hkx; unfold plb at h2; omega)], H.below 1 rfl⟩)
            ·
              refine l_rd rfl rfl (x_pick0 rfl (by conv => lhs; whnf)) ?_
              refine WL.nil ?_
              refine WC.cond0 rfl ?_
              refine WC.skip ?_
              refine WC.region ?_
              refine l_rd rfl rfl (x_move h3) ?_
              refine l_rd rfl rfl (x_add rfl rfl (by omega) (by omega)) ?_
              refine l_rd rfl rfl (x_assign (by conv => lhs; whnf)) ?_
              refine WL.nil ?_
              refine WC.again (⟨k + 1, by omega, fun i hi hik => by
                    by_cases e : i = k
                    · subst e; unfold plb; omega
                    · exact he i hi (by omega), rfl, h1, rfl, H⟩) (by show _ - _ < _ - _; rw [h3]; show p.text.size - ((k : Int) + 1).toNat < p.text.size - (k : Int).toNat; omega)
    ·
      refine WL.nil ?_
      refine WC.cond0 rfl ?_
      refine WC.exit ?_
      refine WC.seq ?_
      refine WC.region ?_
      refine l_rd rfl rfl (x_fieldAddr Try.underlying84 rfl rfl ty82 (by decide) h1) ?_
      refine l_rd rfl rfl (x_load Try.underlying82 rfl rfl (H.cellL 0 rfl rfl)) ?_
      refine l_rdD rfl rfl (x_eql rfl rfl) (fun h55 => ?_) (fun h55 => ?_)
      ·
        refine l_rd rfl rfl (x_move (by conv => lhs; whnf)) ?_
        refine l_gy (wantY rfl rfl rfl) rfl rfl (x_fieldAddr Try.underlying84 rfl rfl ty3 (by decide) h1) ?_
        refine l_gy (wantY rfl rfl rfl) rfl rfl (x_load Try.underlying3 rfl rfl (H.cellL 0 rfl rfl)) ?_
        refine l_gyD (wantY rfl rfl rfl) rfl rfl (x_eql rfl rfl) (fun h59 => ?_) (fun h59 => ?_)
        ·
          refine l_rd rfl rfl (x_pick1 rfl (by conv => lhs; whnf)) ?_
          refine l_rd rfl rfl (x_move (by conv => lhs; whnf)) ?_
          refine l_gy (wantY rfl rfl rfl) rfl rfl (x_fieldAddr Try.underlying84 rfl rfl ty9 (by decide) h1) ?_
          refine l_gy (wantY rfl rfl rfl) rfl rfl (x_load Try.underlying9 rfl rfl (H.cellL 0 rfl rfl)) ?_
          refine l_gy (wantY rfl rfl rfl) rfl rfl (x_lenStr Try.underlying9 rfl rfl) ?_
          refine l_gyD (wantY rfl rfl rfl) rfl rfl (x_leq rfl rfl) (fun h65 => ?_) (fun h65 => ?_)
          ·
            refine l_rd rfl rfl (x_pick1 rfl (by conv => lhs; whnf)) ?_
            refine l_rd rfl rfl (x_assign (by conv => lhs; whnf)) ?_
            refine WL.nil ?_
            refine WC.ret ?_
            refine atRet ?_
            exact RetM.one rfl (by (conv => lhs; whnf); try rfl) (⟨by rw [decide_eq_true (by unfold rgt; rw [if_neg h6]; exact ⟨h55, h59, by omega, fun i hi => he i hi (by omega)⟩)], H.below 1 rfl⟩)
          ·
            refine l_rd rfl rfl (x_pick1 rfl (by conv => lhs; whnf)) ?_
            refine l_rd rfl rfl (x_assign (by conv => lhs; whnf)) ?_
            refine WL.nil ?_
            refine WC.ret ?_
            refine atRet ?_
            exact RetM.one rfl (by (conv => lhs; whnf); try rfl) (⟨by rw [decide_eq_false (by unfold rgt; rw [if_neg h6]; rintro ⟨_, _, _, _⟩; omega)], H.below 1 rfl⟩)
        ·
          refine l_rd rfl rfl (x_pick1 rfl (by conv => lhs; whnf)) ?_
          refine l_rd rfl rfl (x_move (by conv => lhs; whnf)) ?_
          refine l_gn (wantN rfl rfl rfl) rfl ?_
          refine l_gn (wantN rfl rfl rfl) rfl ?_
          refine l_gn (wantN rfl rfl rfl) rfl ?_
          refine l_gn (wantN rfl rfl rfl) rfl ?_
          refine l_rd rfl rfl (x_pick0 rfl ev_c) ?_
          refine l_rd rfl rfl (x_assign (by conv => lhs; whnf)) ?_
          refine WL.nil ?_
          refine WC.ret ?_
          refine atRet ?_
          exact RetM.one rfl (by (conv => lhs; whnf); try rfl) (⟨by rw [decide_eq_false (by unfold rgt; rw [if_neg h6]; exact fun q => h59 q.2.1)], H.below 1 rfl⟩)
      ·
        refine l_rd rfl rfl (x_move (by conv => lhs; whnf)) ?_
        refine l_gn (wantN rfl rfl rfl) rfl ?_
        refine l_gn (wantN rfl rfl rfl) rfl ?_
        refine l_gn (wantN rfl rfl rfl) rfl ?_
        refine l_rd rfl rfl (x_pick0 rfl ev_c) ?_
        refine l_rd rfl rfl (x_move (by conv => lhs; whnf)) ?_
        refine l_gn (wantN rfl rfl rfl) rfl ?_
        refine l_gn (wantN rfl rfl rfl) rfl ?_
        refine l_gn (wantN rfl rfl rfl) rfl ?_
        refine l_gn (wantN rfl rfl rfl) rfl ?_
        refine l_rd rfl rfl (x_pick0 rfl ev_c) ?_
        refine l_rd rfl rfl (x_assign (by conv => lhs; whnf)) ?_
        refine WL.nil ?_
        refine WC.ret ?_
        refine atRet ?_
        exact RetM.one rfl (by (conv => lhs; whnf); try rfl) (⟨by rw [decide_eq_false (by unfold rgt; rw [if_neg h6]; exact fun q => h55 q.1)], H.below 1 rfl⟩)

end Go.Proofs.Ytahdodijpmkddaa
set_option linter.unusedVariables false
set_option linter.unusedSimpArgs false
namespace Go.Proofs.Ytahdodijpmkddaa
open Go Go.RowKit KE Go.Proofs
theorem cal54 : Cal Try.prog 54 := ⟨_, Try.func54, rfl, by decide⟩
theorem cal55 : Cal Try.prog 55 := ⟨_, Try.func55, rfl, by decide⟩
theorem cal56 : Cal Try.prog 56 := ⟨_, Try.func56, rfl, by decide⟩
theorem cal75 : Cal Try.prog 75 := ⟨_, Try.func75, rfl, by decide⟩

def prsA : ByteArray → List Pr → Prop
  | _, [] => True
  | last, p :: r => sLt last p.key ∧ fre p.key ∧ rgt p ∧ prsA p.key r
def prs (xs : List Pr) : Prop := prsA ⟨#[]⟩ xs ∧ xs.length ≤ 8
noncomputable instance (xs : List Pr) : Decidable (prs xs) := Classical.propDecidable _
theorem prs_at {xs : List Pr} {k : Nat} {x : Pr} {last : ByteArray} (h : xs[k]? = some x) : prsA last (xs.drop k) ↔ sLt last x.key ∧ fre x.key ∧ rgt x ∧ prsA x.key (xs.drop (k + 1)) := by
  obtain ⟨hk, e⟩ := List.getElem?_eq_some_iff.1 h
  rw [List.drop_eq_getElem_cons hk, e]; exact Iff.rfl
noncomputable def chk (s d l : ByteArray) (t : Int) (xs : List Pr) : Int := if vtx s ∧ vtx d ∧ fre l ∧ prs xs then (if 0 ≤ t ∧ t ≤ 1099511627776 then 0 else 6) else 2
theorem c55 {v : Value} {xs : List Pr} (w : World) (hx : RdS w v 4 prC xs) (hsz : ∀ p ∈ xs, p.key.size ≤ 140737488355328 ∧ p.text.size ≤ 140737488355328) : CC Try.prog 55 [v].toArray w (fun r w' => r = .bool (decide (prs xs)) ∧ Ext w w') := by
  obtain ⟨w0, e0⟩ : ∃ w0, w0 = w := ⟨w, rfl⟩
  subst e0
  have H := Hd.start w0
  obtain ⟨a, c, rfl⟩ := hx.shape
  have hle := hx.le
  refine CC.of (N := 34) Try.func55 rfl rfl rfl ?_
  refine WC.seq ?_
  refine WC.region ?_
  refine l_rd rfl rfl (x_assign ev_c) ?_
  refine WL.nil ?_
  refine WC.seq ?_
  refine WC.region ?_
  refine l_rd rfl rfl (x_assign ev_c) ?_
  refine WL.nil ?_
  refine WC.seq ?_
  refine WC.seq ?_
  refine WC.region ?_
  refine l_rd rfl rfl (x_move (by conv => lhs; whnf)) ?_
  refine l_rd rfl rfl (x_lenSlice Try.underlying31 rfl rfl) ?_
  refine l_rd rfl rfl (x_move ev_c) ?_
  refine WL.nil ?_
  refine WC.block ?_
  refine WC.loop (fun ρ ds w => ∃ (k : Nat) (last : ByteArray), k ≤ xs.length ∧ (prsA ⟨#[]⟩ xs ↔ prsA last (xs.drop k)) ∧ ρ 8 = I k ∧ ρ 7 = I xs.length ∧ ρ 6 = .slice a xs.length c ∧ ρ 3 = S last ∧ ρ 0 = .slice a xs.length c ∧ ds = [] ∧ Hd (sy w0) w [fr w0]) (fun ρ w => xs.length - (match ρ 8 with | .int _ k => k.toNat | _ => 0)) (⟨0, ⟨#[]⟩, Nat.zero_le _, Iff.rfl, rfl, rfl, rfl, rfl, rfl, rfl, H⟩) ?_
  repeat clear H
  rintro ρ ds w ⟨k, last, hk, he, h8, h7, h6, h3, h0, rfl, H⟩
  refine WC.seq ?_
  refine WC.region ?_
  refine l_rdD rfl rfl (x_lss h8 h7) (fun h9 => ?_) (fun h9 => ?_)
  ·
    refine WL.nil ?_
    refine WC.seq ?_
    refine WC.cond1 rfl ?_
    refine WC.skip ?_
    refine WC.seq ?_
    refine WC.block ?_
    refine WC.seq ?_
    obtain ⟨x, hxk⟩ := lt_get (show k < xs.length by omega)
    obtain ⟨b1, o1, rfl, hc1⟩ := hx.el prC_len hxk
    have hxm := List.mem_of_getElem? hxk
    refine WC.region ?_
    refine l_rd rfl rfl (x_indexAddr Try.underlying31 ty86 h6 h8 (by omega) (by omega)) ?_
    refine l_rd rfl rfl (x_loadF (vs := [_, _, _, _]) Try.underlying86 rfl ty86 rfl rfl (sub_row 0 (fun j u hj => (H.old 0 rfl).cell (hc1 j u hj)) rfl)) ?_
    refine l_st rfl (s_alloc ty86 H fun b5 w H => ?_)
    refine l_no (s_stA 0 rfl ty86 rfl (by conv => lhs; whnf) rfl rfl rfl H fun w H => ?_)
    refine WL.nil ?_
    refine WC.seq ?_
    refine WC.seq ?_
    refine WC.region ?_
    refine l_rd rfl rfl (x_fieldAddr Try.underlying86 rfl rfl ty9 (by decide) rfl) ?_
    refine l_rd rfl rfl (x_load Try.underlying9 rfl rfl (H.cellL 0 rfl rfl)) ?_
    refine l_rd rfl rfl (x_move h3) ?_
    refine l_rdD rfl rfl (x_leqS rfl rfl) (fun h15 => ?_) (fun h15 => ?_)
    ·
      refine l_rd rfl rfl (x_move (by conv => lhs; whnf)) ?_
      refine l_gn (wantN rfl rfl rfl) rfl ?_
      refine l_gn (wantN rfl rfl rfl) rfl ?_
      refine l_gn (wantN rfl rfl rfl) rfl ?_
      refine l_gn (wantN rfl rfl rfl) rfl ?_
      refine l_rd rfl rfl (x_pick1 rfl ev_c) ?_
      refine l_rd rfl rfl (x_move (by conv => lhs; whnf)) ?_
      refine l_gn (wantN rfl rfl rfl) rfl ?_
      refine l_gn (wantN rfl rfl rfl) rfl ?_
      refine l_gn (wantN rfl rfl rfl) rfl ?_
      refine l_gn (wantN rfl rfl rfl) rfl ?_
      refine l_rd rfl rfl (x_pick1 rfl ev_c) ?_
      refine WL.nil ?_
      refine WC.cond1 rfl ?_
      refine WC.seq ?_
      refine WC.region ?_
      refine l_rd rfl rfl (x_assign ev_c) ?_
      refine WL.nil ?_
      refine WC.ret ?_
      refine atRet ?_
      exact RetM.one rfl (by (conv => lhs; whnf); try rfl) (⟨by rw [decide_eq_false (fun h => by have h2 := (prs_at hxk).1 (he.1 h.1); exact sLt_not.2 h2.1 h15)], H.below 1 rfl⟩)
    ·
      refine l_rd rfl rfl (x_move (by conv => lhs; whnf)) ?_
      refine l_gy (wantY rfl rfl rfl) rfl rfl (x_fieldAddr Try.underlying86 rfl rfl ty9 (by decide) rfl) ?_
      refine l_gy (wantY rfl rfl rfl) rfl rfl (x_load Try.underlying9 rfl rfl (H.cellL 0 rfl rfl)) ?_
      refine l_gst (wantY rfl rfl rfl) rfl (s_callL cal54 (c54 (x := x.key) _) ?_)
      rintro r w ⟨hr1, e1⟩
      have H := H.ext e1
      by_cases h19 : fre x.key
      ·
        obtain rfl : r = .bool true := by rw [hr1, decide_eq_true h19]
        refine l_gy (wantY rfl rfl rfl) rfl rfl (x_not rfl) ?_
        refine l_rd rfl rfl (x_pick0 rfl (by conv => lhs; whnf)) ?_
        refine l_rd rfl rfl (x_move (by conv => lhs; whnf)) ?_
        refine l_gy (wantY rfl rfl rfl) rfl rfl (x_fieldAddr Try.underlying86 rfl rfl ty84 (by decide) rfl) ?_
        refine l_gy (wantY rfl rfl rfl) rfl rfl (x_loadF (vs := [_, _, _]) Try.underlying84 rfl ty84 rfl rfl (H.cellsL 0 rfl rfl)) ?_
        refine l_gst (wantY rfl rfl rfl) rfl (s_callL cal75 (c75 (p := x) _ (hsz x hxm).2) ?_)
        rintro r w ⟨hr1, e1⟩
        have H := H.ext e1
        by_cases h25 : rgt x
        ·
          obtain rfl : r = .bool true := by rw [hr1, decide_eq_true h25]
          refine l_gy (wantY rfl rfl rfl) rfl rfl (x_not rfl) ?_
          refine l_rd rfl rfl (x_pick0 rfl (by conv => lhs; whnf)) ?_
          refine WL.nil ?_
          refine WC.cond0 rfl ?_
          refine WC.skip ?_
          refine WC.region ?_
          refine l_rd rfl rfl (x_fieldAddr Try.underlying86 rfl rfl ty9 (by decide) rfl) ?_
          refine l_rd rfl rfl (x_load Try.underlying9 rfl rfl (H.cellL 0 rfl rfl)) ?_
          refine l_rd rfl rfl (x_assign (by conv => lhs; whnf)) ?_
          refine WL.nil ?_
          refine WC.region ?_
          refine l_rd rfl rfl (x_add h8 rfl (by omega) (by omega)) ?_
          refine l_rd rfl rfl (x_move (by conv => lhs; whnf)) ?_
          refine WL.nil ?_
          refine WC.again (⟨k + 1, x.key, by omega, he.trans ((prs_at hxk).trans ⟨fun q => q.2.2.2, fun q => ⟨sLt_not.1 h15, h19, h25, q⟩⟩), rfl, h7, h6, rfl, h0, rfl, H.drop⟩) (by show _ - _ < _ - _; rw [h8]; show xs.length - ((k : Int) + 1).toNat < xs.length - (k : Int).toNat; omega)
        ·
          obtain rfl : r = .bool false := by rw [hr1, decide_eq_false h25]
          refine l_gy (wantY rfl rfl rfl) rfl rfl (x_not rfl) ?_
          refine l_rd rfl rfl (x_pick0 rfl (by conv => lhs; whnf)) ?_
          refine WL.nil ?_
          refine WC.cond1 rfl ?_
          refine WC.seq ?_
          refine WC.region ?_
          refine l_rd rfl rfl (x_assign ev_c) ?_
          refine WL.nil ?_
          refine WC.ret ?_
          refine atRet ?_
          exact RetM.one rfl (by (conv => lhs; whnf); try rfl) (⟨by rw [decide_eq_false (fun h => by have h2 := (prs_at hxk).1 (he.1 h.1); exact h25 h2.2.2.1)], H.below 1 rfl⟩)
      ·
        obtain rfl : r = .bool false := by rw [hr1, decide_eq_false h19]
        refine l_gy (wantY rfl rfl rfl) rfl rfl (x_not rfl) ?_
        refine l_rd rfl rfl (x_pick0 rfl (by conv => lhs; whnf)) ?_
        refine l_rd rfl rfl (x_move (by conv => lhs; whnf)) ?_
        refine l_gn (wantN rfl rfl rfl) rfl ?_
        refine l_gn (wantN rfl rfl rfl) rfl ?_
        refine l_gn (wantN rfl rfl rfl) rfl ?_
        refine l_gn (wantN rfl rfl rfl) rfl ?_
        refine l_rd rfl rfl (x_pick1 rfl ev_c) ?_
        refine WL.nil ?_
        refine WC.cond1 rfl ?_
        refine WC.seq ?_
        refine WC.region ?_
        refine l_rd rfl rfl (x_assign ev_c) ?_
        refine WL.nil ?_
        refine WC.ret ?_
        refine atRet ?_
        exact RetM.one rfl (by (conv => lhs; whnf); try rfl) (⟨by rw [decide_eq_false (fun h => by have h2 := (prs_at hxk).1 (he.1 h.1); exact h19 h2.2.1)], H.below 1 rfl⟩)
  ·
    refine WL.nil ?_
    refine WC.seq ?_
    refine WC.cond0 rfl ?_
    refine WC.exit ?_
    refine WC.seq ?_
    refine WC.region ?_
    refine l_rd rfl rfl (x_move h0) ?_
    refine l_rd rfl rfl (x_lenSlice Try.underlying31 rfl rfl) ?_
    refine l_rdD rfl rfl (x_leq rfl rfl) (fun h33 => ?_) (fun h33 => ?_)
    ·
      refine l_rd rfl rfl (x_assign (by conv => lhs; whnf)) ?_
      refine WL.nil ?_
      refine WC.ret ?_
      refine atRet ?_
      exact RetM.one rfl (by (conv => lhs; whnf); try rfl) (⟨by rw [decide_eq_true ⟨he.2 (by rw [List.drop_of_length_le (by omega)]; trivial), by omega⟩], H.below 0 rfl⟩)
    ·
      refine l_rd rfl rfl (x_assign (by conv => lhs; whnf)) ?_
      refine WL.nil ?_
      refine WC.ret ?_
      refine atRet ?_
      exact RetM.one rfl (by (conv => lhs; whnf); try rfl) (⟨by rw [decide_eq_false (fun h => by have := h.2; omega)], H.below 0 rfl⟩)

theorem c30 {e : Ed} {xs : List Pr} (w : World) (hx : RdS w e.pv 4 prC xs) (hsz : ∀ p ∈ xs, p.key.size ≤ 140737488355328 ∧ p.text.size ≤ 140737488355328) : CC Try.prog 30 [.agg (edC e).toArray].toArray w (fun r w' => r = I (chk e.src e.dst e.lab e.time xs) ∧ Ext w w') := by
  obtain ⟨w0, e0⟩ : ∃ w0, w0 = w := ⟨w, rfl⟩
  subst e0
  have H := Hd.start w0
  refine CC.of (N := 25) Try.func30 rfl rfl rfl ?_
  refine WC.seq ?_
  refine WC.region ?_
  refine l_st rfl (s_box (by conv => lhs; whnf) H fun b1 w H => ?_)
  refine l_rd rfl rfl (x_assign ev_c) ?_
  refine WL.nil ?_
  refine WC.seq ?_
  refine WC.block ?_
  refine WC.seq ?_
  refine WC.seq ?_
  refine WC.region ?_
  refine l_rd rfl rfl (x_fieldAddr Try.underlying33 rfl rfl ty9 (by decide) rfl) ?_
  refine l_rd rfl rfl (x_load Try.underlying9 rfl rfl (H.cellL 0 rfl rfl)) ?_
  refine l_st rfl (s_callL cal53 (c53 _) ?_)
  rintro r w ⟨hr1, e1⟩
  have H := H.ext e1
  by_cases h6 : vtx e.src
  ·
    obtain rfl : r = .bool true := by rw [hr1, decide_eq_true h6]
    refine l_rd rfl rfl (x_not rfl) ?_
    refine l_rd rfl rfl (x_assign (by conv => lhs; whnf)) ?_
    refine WL.nil ?_
    refine WC.cond0 rfl ?_
    refine WC.seq ?_
    refine WC.region ?_
    refine l_rd rfl rfl (x_fieldAddr Try.underlying33 rfl rfl ty9 (by decide) rfl) ?_
    refine l_rd rfl rfl (x_load Try.underlying9 rfl rfl (H.cellL 0 rfl rfl)) ?_
    refine l_st rfl (s_callL cal53 (c53 _) ?_)
    rintro r w ⟨hr1, e1⟩
    have H := H.ext e1
    by_cases h10 : vtx e.dst
    ·
      obtain rfl : r = .bool true := by rw [hr1, decide_eq_true h10]
      refine l_rd rfl rfl (x_not rfl) ?_
      refine l_rd rfl rfl (x_assign (by conv => lhs; whnf)) ?_
      refine WL.nil ?_
      refine WC.cond0 rfl ?_
      refine WC.seq ?_
      refine WC.region ?_
      refine l_rd rfl rfl (x_fieldAddr Try.underlying33 rfl rfl ty9 (by decide) rfl) ?_
      refine l_rd rfl rfl (x_load Try.underlying9 rfl rfl (H.cellL 0 rfl rfl)) ?_
      refine l_st rfl (s_callL cal54 (c54 _) ?_)
      rintro r w ⟨hr1, e1⟩
      have H := H.ext e1
      by_cases h14 : fre e.lab
      ·
        obtain rfl : r = .bool true := by rw [hr1, decide_eq_true h14]
        refine l_rd rfl rfl (x_not rfl) ?_
        refine l_rd rfl rfl (x_assign (by conv => lhs; whnf)) ?_
        refine WL.nil ?_
        refine WC.cond0 rfl ?_
        refine WC.region ?_
        refine l_rd rfl rfl (x_fieldAddr Try.underlying33 rfl rfl ty31 (by decide) rfl) ?_
        refine l_rd rfl rfl (x_load Try.underlying31 rfl rfl (H.cellL 0 rfl rfl)) ?_
        refine l_st rfl (s_callL cal55 (c55 _ ((H.old 1 rfl).rdS hx) hsz) ?_)
        rintro r w ⟨hr1, e1⟩
        have H := H.ext e1
        by_cases h18 : prs xs
        ·
          obtain rfl : r = .bool true := by rw [hr1, decide_eq_true h18]
          refine l_rd rfl rfl (x_not rfl) ?_
          refine l_rd rfl rfl (x_assign (by conv => lhs; whnf)) ?_
          refine WL.nil ?_
          refine WC.cond0 rfl ?_
          refine WC.seq ?_
          refine WC.region ?_
          refine l_rd rfl rfl (x_fieldAddr Try.underlying33 rfl rfl ty3 (by decide) rfl) ?_
          refine l_rd rfl rfl (x_load Try.underlying3 rfl rfl (H.cellL 0 rfl rfl)) ?_
          refine l_st rfl (s_callL cal56 (c56 _) ?_)
          rintro r w ⟨hr1, e1⟩
          have H := H.ext e1
          by_cases h23 : 0 ≤ e.time ∧ e.time ≤ 1099511627776
          ·
            obtain rfl : r = .bool true := by rw [hr1, decide_eq_true h23]
            refine l_rd rfl rfl (x_not rfl) ?_
            refine l_rd rfl rfl (x_assign (by conv => lhs; whnf)) ?_
            refine WL.nil ?_
            refine WC.cond0 rfl ?_
            refine WC.skip ?_
            refine WC.seq ?_
            refine WC.region ?_
            refine l_rd rfl rfl (x_assign ev_c) ?_
            refine WL.nil ?_
            refine WC.ret ?_
            refine atRet ?_
            exact RetM.one rfl (by (conv => lhs; whnf); try rfl) (⟨by rw [chk, if_pos ⟨h6, h10, h14, h18⟩, if_pos h23], H.below 1 rfl⟩)
          ·
            obtain rfl : r = .bool false := by rw [hr1, decide_eq_false h23]
            refine l_rd rfl rfl (x_not rfl) ?_
            refine l_rd rfl rfl (x_assign (by conv => lhs; whnf)) ?_
            refine WL.nil ?_
            refine WC.cond1 rfl ?_
            refine WC.seq ?_
            refine WC.region ?_
            refine l_rd rfl rfl (x_assign ev_c) ?_
            refine WL.nil ?_
            refine WC.ret ?_
            refine atRet ?_
            exact RetM.one rfl (by (conv => lhs; whnf); try rfl) (⟨by rw [chk, if_pos ⟨h6, h10, h14, h18⟩, if_neg h23], H.below 1 rfl⟩)
        ·
          obtain rfl : r = .bool false := by rw [hr1, decide_eq_false h18]
          refine l_rd rfl rfl (x_not rfl) ?_
          refine l_rd rfl rfl (x_assign (by conv => lhs; whnf)) ?_
          refine WL.nil ?_
          refine WC.cond1 rfl ?_
          refine WC.seq ?_
          refine WC.region ?_
          refine l_rd rfl rfl (x_assign ev_c) ?_
          refine WL.nil ?_
          refine WC.ret ?_
          refine atRet ?_
          exact RetM.one rfl (by (conv => lhs; whnf); try rfl) (⟨by rw [chk, if_neg (fun q => h18 q.2.2.2)], H.below 1 rfl⟩)
      ·
        obtain rfl : r = .bool false := by rw [hr1, decide_eq_false h14]
        refine l_rd rfl rfl (x_not rfl) ?_
        refine l_rd rfl rfl (x_assign (by conv => lhs; whnf)) ?_
        refine WL.nil ?_
        refine WC.cond1 rfl ?_
        refine WC.skip ?_
        refine WC.cond1 rfl ?_
        refine WC.seq ?_
        refine WC.region ?_
        refine l_rd rfl rfl (x_assign ev_c) ?_
        refine WL.nil ?_
        refine WC.ret ?_
        refine atRet ?_
        exact RetM.one rfl (by (conv => lhs; whnf); try rfl) (⟨by rw [chk, if_neg (fun q => h14 q.2.2.1)], H.below 1 rfl⟩)
    ·
      obtain rfl : r = .bool false := by rw [hr1, decide_eq_false h10]
      refine l_rd rfl rfl (x_not rfl) ?_
      refine l_rd rfl rfl (x_assign (by conv => lhs; whnf)) ?_
      refine WL.nil ?_
      refine WC.cond1 rfl ?_
      refine WC.skip ?_
      refine WC.cond1 rfl ?_
      refine WC.seq ?_
      refine WC.region ?_
      refine l_rd rfl rfl (x_assign ev_c) ?_
      refine WL.nil ?_
      refine WC.ret ?_
      refine atRet ?_
      exact RetM.one rfl (by (conv => lhs; whnf); try rfl) (⟨by rw [chk, if_neg (fun q => h10 q.2.1)], H.below 1 rfl⟩)
  ·
    obtain rfl : r = .bool false := by rw [hr1, decide_eq_false h6]
    refine l_rd rfl rfl (x_not rfl) ?_
    refine l_rd rfl rfl (x_assign (by conv => lhs; whnf)) ?_
    refine WL.nil ?_
    refine WC.cond1 rfl ?_
    refine WC.skip ?_
    refine WC.cond1 rfl ?_
    refine WC.seq ?_
    refine WC.region ?_
    refine l_rd rfl rfl (x_assign ev_c) ?_
    refine WL.nil ?_
    refine WC.ret ?_
    refine atRet ?_
    exact RetM.one rfl (by (conv => lhs; whnf); try rfl) (⟨by rw [chk, if_neg (fun q => h6 q.1)], H.below 1 rfl⟩)

end Go.Proofs.Ytahdodijpmkddaa
set_option linter.unusedVariables false
set_option linter.unusedSimpArgs false
namespace Go.Proofs.Ytahdodijpmkddaa
open Go Go.RowKit KE Go.Proofs
theorem cal64 : Cal Try.prog 64 := ⟨_, Try.func64, rfl, by decide⟩
theorem cal65 : Cal Try.prog 65 := ⟨_, Try.func65, rfl, by decide⟩
theorem cal66 : Cal Try.prog 66 := ⟨_, Try.func66, rfl, by decide⟩

theorem prsA_iff : ∀ (xs : List Pr) (last : ByteArray), prsA last xs ↔ (∀ x, xs[0]? = some x → sLt last x.key) ∧ (∀ (j : Nat) (x : Pr), xs[j]? = some x → fre x.key ∧ rgt x) ∧ (∀ (j : Nat) (x y : Pr), xs[j]? = some x → xs[j + 1]? = some y → sLt x.key y.key)
  | [], last => by simp [prsA]
  | p :: xs, last => by
    rw [prsA, prsA_iff xs p.key]
    constructor
    · rintro ⟨h1, h2, h3, h4, h5, h6⟩
      refine ⟨fun x hx => by simp at hx; subst hx; exact h1, fun j x hx => ?_, fun j x y hx hy => ?_⟩
      · cases j with
        | zero => simp at hx; subst hx; exact ⟨h2, h3⟩
        | succ j => exact h5 j x (by simpa using hx)
      · cases j with
        | zero => simp at hx; subst hx; exact h4 y (by simpa using hy)
        | succ j => exact h6 j x y (by simpa using hx) (by simpa using hy)
    · rintro ⟨h1, h2, h3⟩
      exact ⟨h1 p rfl, (h2 0 p rfl).1, (h2 0 p rfl).2, fun x hx => h3 0 p x rfl (by simpa using hx), fun j x hx => h2 (j + 1) x (by simpa using hx), fun j x y hx hy => h3 (j + 1) x y (by simpa using hx) (by simpa using hy)⟩
theorem prs_all {xs : List Pr} (h1 : ∀ (j : Nat) (x : Pr), xs[j]? = some x → fre x.key ∧ rgt x) (h2 : ∀ (j : Nat) (x y : Pr), xs[j]? = some x → xs[j + 1]? = some y → sLt x.key y.key) : prsA ⟨#[]⟩ xs :=
  (prsA_iff _ _).2 ⟨fun x hx => sLt_empty (h1 0 x hx).1.1.2.1, h1, h2⟩
theorem c35 {e : Ed} {xs : List Pr} (w : World) (hx : RdS w e.pv 4 prC xs) (hsz : ∀ p ∈ xs, p.key.size ≤ 140737488355328 ∧ p.text.size ≤ 140737488355328) (hs1 : e.src.size ≤ 140737488355328) (hs2 : e.dst.size ≤ 140737488355328) (hs3 : e.lab.size ≤ 140737488355328) : CC Try.prog 35 [.agg (edC e).toArray].toArray w (fun r w' => r = I (chk e.src e.dst e.lab e.time xs) ∧ Ext w w') := by
  obtain ⟨w0, e0⟩ : ∃ w0, w0 = w := ⟨w, rfl⟩
  subst e0
  have H := Hd.start w0
  obtain ⟨es, ed, el, et, epv⟩ := e
  have hx : RdS w0 epv 4 prC xs := hx
  obtain ⟨a, c, rfl⟩ := hx.shape
  have hle := hx.le
  refine CC.of (N := 75) Try.func35 rfl rfl rfl ?_
  refine WC.seq ?_
  refine WC.region ?_
  refine l_st rfl (s_box (by conv => lhs; whnf) H fun b1 w H => ?_)
  refine l_rd rfl rfl (x_assign ev_c) ?_
  refine WL.nil ?_
  refine WC.seq ?_
  refine WC.seq ?_
  refine WC.region ?_
  refine l_rd rfl rfl (x_fieldAddr Try.underlying33 rfl rfl ty9 (by decide) rfl) ?_
  refine l_rd rfl rfl (x_load Try.underlying9 rfl rfl (H.cellL 0 rfl rfl)) ?_
  refine l_st rfl (s_callL cal63 (c63 _ hs1) ?_)
  rintro r w ⟨hr1, e1⟩
  have H := H.ext e1
  by_cases h6 : vtx es
  ·
    obtain rfl : r = .bool true := by rw [hr1, decide_eq_true h6]
    refine l_rd rfl rfl (x_not rfl) ?_
    refine l_rd rfl rfl (x_move (by conv => lhs; whnf)) ?_
    refine l_gy (wantY rfl rfl rfl) rfl rfl (x_fieldAddr Try.underlying33 rfl rfl ty9 (by decide) rfl) ?_
    refine l_gy (wantY rfl rfl rfl) rfl rfl (x_load Try.underlying9 rfl rfl (H.cellL 0 rfl rfl)) ?_
    refine l_gst (wantY rfl rfl rfl) rfl (s_callL cal63 (c63 _ hs2) ?_)
    rintro r w ⟨hr1, e1⟩
    have H := H.ext e1
    by_cases h11 : vtx ed
    ·
      obtain rfl : r = .bool true := by rw [hr1, decide_eq_true h11]
      refine l_gy (wantY rfl rfl rfl) rfl rfl (x_not rfl) ?_
      refine l_rd rfl rfl (x_pick0 rfl (by conv => lhs; whnf)) ?_
      refine l_rd rfl rfl (x_move (by conv => lhs; whnf)) ?_
      refine l_gy (wantY rfl rfl rfl) rfl rfl (x_fieldAddr Try.underlying33 rfl rfl ty9 (by decide) rfl) ?_
      refine l_gy (wantY rfl rfl rfl) rfl rfl (x_load Try.underlying9 rfl rfl (H.cellL 0 rfl rfl)) ?_
      refine l_gst (wantY rfl rfl rfl) rfl (s_callL cal64 (c64 _ hs3) ?_)
      rintro r w ⟨hr1, e1⟩
      have H := H.ext e1
      by_cases h17 : fre el
      ·
        obtain rfl : r = .bool true := by rw [hr1, decide_eq_true h17]
        refine l_gy (wantY rfl rfl rfl) rfl rfl (x_not rfl) ?_
        refine l_rd rfl rfl (x_pick0 rfl (by conv => lhs; whnf)) ?_
        refine l_rd rfl rfl (x_move (by conv => lhs; whnf)) ?_
        refine l_gy (wantY rfl rfl rfl) rfl rfl (x_fieldAddr Try.underlying33 rfl rfl ty31 (by decide) rfl) ?_
        refine l_gy (wantY rfl rfl rfl) rfl rfl (x_load Try.underlying31 rfl rfl (H.cellL 0 rfl rfl)) ?_
        refine l_gy (wantY rfl rfl rfl) rfl rfl (x_lenSlice Try.underlying31 rfl rfl) ?_
        refine l_gyD (wantY rfl rfl rfl) rfl rfl (x_gtr rfl rfl) (fun h24 => ?_) (fun h24 => ?_)
        ·
          refine l_rd rfl rfl (x_pick0 rfl (by conv => lhs; whnf)) ?_
          refine WL.nil ?_
          refine WC.cond1 rfl ?_
          refine WC.seq ?_
          refine WC.region ?_
          refine l_rd rfl rfl (x_assign ev_c) ?_
          refine WL.nil ?_
          refine WC.ret ?_
          refine atRet ?_
          exact RetM.one (v := I 2) rfl rfl ⟨by rw [chk, if_neg (fun q => by have := q.2.2.2.2; omega)], H.below 1 rfl⟩
        ·
          refine l_rd rfl rfl (x_pick0 rfl (by conv => lhs; whnf)) ?_
          refine WL.nil ?_
          refine WC.cond0 rfl ?_
          refine WC.skip ?_
          refine WC.seq ?_
          refine WC.seq ?_
          refine WC.region ?_
          refine l_rd rfl rfl (x_assign ev_c) ?_
          refine WL.nil ?_
          refine WC.block ?_
          refine WC.loop (fun ρ ds w => ∃ k : Nat, k ≤ xs.length ∧ (∀ (j : Nat) (x : Pr), j < k → xs[j]? = some x → fre x.key ∧ rgt x) ∧ (∀ (j : Nat) (x y : Pr), j + 1 < k → xs[j]? = some x → xs[j + 1]? = some y → sLt x.key y.key) ∧ ρ 3 = I k ∧ ρ 1 = .pointer (some ⟨b1, 0, none⟩) ∧ ds = [] ∧ Hd (sy w0) w [pt b1 (.cells #[S es, S ed, S el, I et, .slice a xs.length c] 33 (0, 0)), fr w0]) (fun ρ w => xs.length - (match ρ 3 with | .int _ k => k.toNat | _ => 0)) (⟨0, Nat.zero_le _, fun j x h => absurd h (by omega), fun j x y h => absurd h (by omega), rfl, rfl, rfl, H⟩) ?_
          repeat clear H
          rintro ρ ds w ⟨k, hk, he, ho, h3, h1, rfl, H⟩
          refine WC.seq ?_
          refine WC.seq ?_
          refine WC.region ?_
          refine l_rd rfl rfl (x_move h3) ?_
          refine l_rd rfl rfl (x_fieldAddr Try.underlying33 rfl rfl ty31 (by decide) h1) ?_
          refine l_rd rfl rfl (x_load Try.underlying31 rfl rfl (H.cellL 0 rfl rfl)) ?_
          refine l_rd rfl rfl (x_lenSlice Try.underlying31 rfl rfl) ?_
          refine l_rdD rfl rfl (x_lss rfl rfl) (fun h30 => ?_) (fun h30 => ?_)
          ·
            refine WL.nil ?_
            refine WC.cond1 rfl ?_
            refine WC.skip ?_
            refine WC.seq ?_
            refine WC.block ?_
            refine WC.seq ?_
            obtain ⟨x, hxk⟩ := lt_get (show k < xs.length by omega)
            obtain ⟨b2, o2, rfl, hc1⟩ := hx.el prC_len hxk
            have hxm := List.mem_of_getElem? hxk
            refine WC.draw mixed [6, 15] [[], [0], [], [0, 1, 2], [0, 1, 2, 3], [0, 1, 2, 3, 4], [0, 1, 2, 3, 4, 5], [0, 1, 2, 3, 4, 5, 6], [0, 1, 2, 3, 4, 5, 6, 7], [0, 1, 2, 3, 4, 5, 6, 7, 8], [0, 1, 2, 3, 4, 5, 6, 7, 8, 9], [0, 1, 2, 3, 4, 5, 6, 7, 8], [0, 1, 2, 3, 4, 5, 6, 7, 8, 9, 10, 11], [0, 1, 2, 3, 4, 5, 6, 7, 8, 9, 10, 11, 12], [0, 1, 2, 3, 4, 5, 6, 7, 8, 9, 10, 11, 12, 13], [0, 1, 2, 3, 4, 5, 6, 7, 8, 9, 10, 11, 12, 13, 14], [0, 1, 2, 3, 4, 5, 6, 7, 8, 9, 10, 11, 12, 13, 14, 15], [0, 1, 2, 3, 4, 5, 6, 7, 8, 9, 10, 11, 12, 13, 14, 15, 16], [0, 1, 2, 3, 4, 5, 6, 7, 8, 9, 10, 11, 12, 13, 14, 15, 16, 17], [0, 1, 2, 3, 4, 5, 6, 7, 8, 9, 10, 11, 12, 13, 14, 15, 16, 17, 18], [0, 1, 2, 3, 4, 5, 6, 7, 8, 9, 10, 11, 12, 13, 14, 15, 16, 17, 18, 19], [0, 1, 2, 3, 4, 5, 6, 7, 8, 9, 10, 11, 12, 13, 14, 15, 16, 17, 18, 19, 20], [0, 1, 2, 3, 4, 5, 6, 7, 8, 9, 10, 11, 12, 13, 14, 15, 16, 17, 18, 19, 20, 21], [0, 1, 2, 3, 4, 5, 6, 7, 8, 9, 10, 11, 12, 13, 14, 15, 16, 17, 18, 19, 20, 21, 22], [0, 1, 2, 3, 4, 5, 6, 7, 8, 9, 10, 11, 12, 13, 14, 15, 16, 17, 18, 19, 20, 21], [0, 1, 2, 3, 4, 5, 6, 7, 8, 9, 10, 11, 12, 13, 14, 15, 16, 17, 18, 19, 20, 21, 24], [0, 1, 2, 3, 4, 5, 6, 7, 8, 9, 10, 11, 12, 13, 14, 15, 16, 17, 18, 19, 20, 21, 22, 23, 24, 25], [0, 1, 2, 3, 4, 5, 6, 7, 8, 9, 10, 11, 12, 13, 14, 15, 16, 17, 18, 19, 20, 21, 22, 23, 24, 25, 26], [0, 1, 2, 3, 4, 5, 6, 7, 8, 9, 10, 11, 12, 13, 14, 15, 16, 17, 18, 19, 20, 21, 22, 23, 24, 25, 26, 27], [0, 1, 2, 3, 4, 5, 6, 7, 8, 9, 10, 11, 12, 13, 14, 15, 16, 17, 18, 19, 20, 21], [0, 1, 2, 3, 4, 5, 6, 7, 8, 9, 10, 11, 12, 13, 14, 15, 16, 17, 18, 19, 20, 21, 29], [0, 1, 2, 3, 4, 5, 6, 7, 8, 9, 10, 11, 12, 13, 14, 15, 16, 17, 18, 19, 20, 21], [0, 1, 2, 3, 4, 5, 6, 7, 8, 9, 10, 11, 12, 13, 14, 15, 16, 17, 18, 19, 20, 21, 29, 30, 31], [0, 1, 2, 3, 4, 5, 6, 7, 8, 9, 10, 11, 12, 13, 14, 15, 16, 17, 18, 19, 20, 21, 29, 30, 31, 32], [0, 1, 2, 3, 4, 5, 6, 7, 8, 9, 10, 11, 12, 13, 14, 15, 16, 17, 18, 19, 20, 21, 29, 30, 31, 32, 33], [0, 1, 2, 3, 4, 5, 6, 7, 8, 9, 10, 11, 12, 13, 14, 15, 16, 17, 18, 19, 20, 21, 22, 23, 24, 25, 26, 27, 28, 29, 30, 31, 32, 33, 34], [0, 1, 2, 3, 4, 5, 6, 7, 8, 9, 10, 11, 12, 13, 14, 15, 16, 17, 18, 19, 20, 21, 22, 23, 24, 25, 26, 27, 28, 29, 30, 31, 32, 33, 34, 35], [0, 1, 2, 3, 4, 5, 6, 7, 8, 9, 10, 11, 12, 13, 14, 15, 16, 17, 18, 19, 20, 21, 22, 23, 24, 25, 26, 27, 28, 29, 30, 31, 32, 33, 34, 35, 36]] [0, 1, 2, 3, 4, 5, 6, 7, 8, 9, 10, 11, 12, 13, 14, 15, 16, 17, 18, 19, 20, 21, 22, 23, 24, 25, 26, 27, 28, 29, 30, 31, 32, 33, 34, 35, 36, 37] (by kernel_rfl) ?_
            have H := H.drew
            refine k_rd rfl rfl (RS.of rfl rfl (x_fieldAddr Try.underlying33 rfl rfl ty31 (by decide) h1)) ?_
            refine k_rd rfl rfl (RS.of rfl rfl (x_load Try.underlying31 rfl rfl (H.cellL 0 rfl rfl))) ?_
            refine k_rd rfl rfl (RS.of rfl rfl (x_move h3)) ?_
            refine k_rd rfl rfl (RS.of rfl rfl (x_indexAddr Try.underlying31 ty86 rfl rfl (by omega) (by omega))) ?_
            refine k_rd rfl rfl (RS.of rfl rfl (x_fieldAddr Try.underlying86 rfl rfl ty9 (by decide) rfl)) ?_
            refine k_rd rfl rfl (RS.of rfl rfl (x_load Try.underlying9 rfl rfl ((fun j u hj => (H.old 1 rfl).cell (hc1 j u hj)) 0 _ rfl))) ?_
            refine k_st rfl rfl rfl (s_callL cal64 (c64 (x := x.key) _ (hsz x hxm).1) ?_)
            rintro r w ⟨hr1, e1⟩
            have H := H.ext e1
            by_cases h39 : fre x.key
            ·
              obtain rfl : r = .bool true := by rw [hr1, decide_eq_true h39]
              refine ⟨⟨trivial, ⟨trivial, ⟨trivial, ⟨trivial, ⟨trivial, ⟨trivial, trivial⟩⟩⟩⟩⟩⟩, ?_⟩
              refine k_rd rfl rfl (RS.of rfl rfl (x_not rfl)) ?_
              refine k_rd rfl rfl (RS.of rfl rfl (x_move (by conv => lhs; whnf))) ?_
              refine k_rd rfl rfl (RS.yes rfl (wantY rfl rfl rfl) (x_fieldAddr Try.underlying33 rfl rfl ty31 (by decide) h1)) ?_
              refine k_rd rfl rfl (RS.yes rfl (wantY rfl rfl rfl) (x_load Try.underlying31 rfl rfl (H.cellL 0 rfl rfl))) ?_
              refine k_rd rfl rfl (RS.yes rfl (wantY rfl rfl rfl) (x_move h3)) ?_
              refine k_rd rfl rfl (RS.yes rfl (wantY rfl rfl rfl) (x_indexAddr Try.underlying31 ty86 rfl rfl (by omega) (by omega))) ?_
              refine k_rd rfl rfl (RS.yes rfl (wantY rfl rfl rfl) (x_fieldAddr Try.underlying86 rfl rfl ty84 (by decide) rfl)) ?_
              refine k_rd rfl rfl (RS.yes rfl (wantY rfl rfl rfl) (x_loadF (vs := [_, _, _]) Try.underlying84 rfl ty84 rfl rfl (sub_row 1 (fun j u hj => (H.old 1 rfl).cell (hc1 j u hj)) rfl))) ?_
              refine k_st rfl rfl (wantY rfl rfl rfl) (s_callL cal65 (c65 (p := x) _ (hsz x hxm).2) ?_)
              rintro r w ⟨hr1, e1⟩
              have H := H.ext e1
              by_cases h48 : rgt x
              ·
                obtain rfl : r = .bool true := by rw [hr1, decide_eq_true h48]
                refine ⟨⟨trivial, ⟨trivial, ⟨trivial, ⟨trivial, ⟨trivial, ⟨trivial, ⟨trivial, ⟨trivial, ⟨trivial, ⟨trivial, ⟨trivial, ⟨trivial, ⟨trivial, ⟨trivial, trivial⟩⟩⟩⟩⟩⟩⟩⟩⟩⟩⟩⟩⟩⟩, ?_⟩
                refine k_rd rfl rfl (RS.yes rfl (wantY rfl rfl rfl) (x_not rfl)) ?_
                refine k_rd rfl rfl (RS.of rfl rfl (x_pick0 rfl (by conv => lhs; whnf))) ?_
                refine k_rd rfl rfl (RS.of rfl rfl (x_move (by conv => lhs; whnf))) ?_
                refine k_rd rfl rfl (RS.yes rfl (wantY rfl rfl rfl) (x_move h3)) ?_
                refine k_rdD rfl rfl (wantY rfl rfl rfl) rfl (x_gtr rfl rfl) (fun h53 => ?_) (fun h53 => ?_)
                ·
                  obtain ⟨y, hyk⟩ := lt_get (show ((k : Int) - 1).toNat < xs.length by omega)
                  have hc0 := hx.at prC_len hyk
                  refine k_rd rfl rfl (RS.yes rfl (wantY rfl rfl rfl) (x_move (by conv => lhs; whnf))) ?_
                  refine k_rd rfl rfl (RS.yes rfl (wantY rfl rfl rfl) (x_fieldAddr Try.underlying33 rfl rfl ty31 (by decide) h1)) ?_
                  refine k_rd rfl rfl (RS.yes rfl (wantY rfl rfl rfl) (x_load Try.underlying31 rfl rfl (H.cellL 0 rfl rfl))) ?_
                  refine k_rd rfl rfl (RS.yes rfl (wantY rfl rfl rfl) (x_move h3)) ?_
                  refine k_rd rfl rfl (RS.yes rfl (wantY rfl rfl rfl) (x_sub rfl rfl (by omega) (by omega))) ?_
                  refine k_rd rfl rfl (RS.yes rfl (wantY rfl rfl rfl) (x_indexAddr Try.underlying31 ty86 rfl rfl (by omega) (by omega))) ?_
                  refine k_rd rfl rfl (RS.yes rfl (wantY rfl rfl rfl) (x_fieldAddr Try.underlying86 rfl rfl ty9 (by decide) rfl)) ?_
                  refine k_rd rfl rfl (RS.yes rfl (wantY rfl rfl rfl) (x_load Try.underlying9 rfl rfl ((fun j u hj => (H.old 1 rfl).cell (hc0 j u hj)) 0 _ rfl))) ?_
                  refine k_rd rfl rfl (RS.yes rfl (wantY rfl rfl rfl) (x_fieldAddr Try.underlying33 rfl rfl ty31 (by decide) h1)) ?_
                  refine k_rd rfl rfl (RS.yes rfl (wantY rfl rfl rfl) (x_load Try.underlying31 rfl rfl (H.cellL 0 rfl rfl))) ?_
                  refine k_rd rfl rfl (RS.yes rfl (wantY rfl rfl rfl) (x_move h3)) ?_
                  refine k_rd rfl rfl (RS.yes rfl (wantY rfl rfl rfl) (x_indexAddr Try.underlying31 ty86 rfl rfl (by omega) (by omega))) ?_
                  refine k_rd rfl rfl (RS.yes rfl (wantY rfl rfl rfl) (x_fieldAddr Try.underlying86 rfl rfl ty9 (by decide) rfl)) ?_
                  refine k_rd rfl rfl (RS.yes rfl (wantY rfl rfl rfl) (x_load Try.underlying9 rfl rfl ((fun j u hj => (H.old 1 rfl).cell (hc1 j u hj)) 0 _ rfl))) ?_
                  refine k_rdD rfl rfl (wantY rfl rfl rfl) rfl (x_geqS rfl rfl) (fun h68 => ?_) (fun h68 => ?_)
                  ·
                    refine k_rd rfl rfl (RS.yes rfl (wantY rfl rfl rfl) (x_pick1 rfl (by conv => lhs; whnf))) ?_
                    refine k_rd rfl rfl (RS.of rfl rfl (x_pick0 rfl (by conv => lhs; whnf))) ?_
                    show _
                    refine WC.cond1 rfl ?_
                    refine WC.seq ?_
                    refine WC.region ?_
                    refine l_rd rfl rfl (x_assign ev_c) ?_
                    refine WL.nil ?_
                    refine WC.ret ?_
                    refine atRet ?_
                    exact RetM.one (v := I 2) rfl rfl ⟨by rw [chk, if_neg (fun q => h68 (((prsA_iff _ _).1 q.2.2.2.1).2.2 _ y x hyk (by rw [show ((k : Int) - 1).toNat + 1 = k from by omega]; exact hxk)))], H.below 1 rfl⟩
                  ·
                    refine k_rd rfl rfl (RS.yes rfl (wantY rfl rfl rfl) (x_pick1 rfl (by conv => lhs; whnf))) ?_
                    refine k_rd rfl rfl (RS.of rfl rfl (x_pick0 rfl (by conv => lhs; whnf))) ?_
                    show _
                    refine WC.cond0 rfl ?_
                    refine WC.skip ?_
                    refine WC.region ?_
                    refine l_rd rfl rfl (x_move h3) ?_
                    refine l_rd rfl rfl (x_add rfl rfl (by omega) (by omega)) ?_
                    refine l_rd rfl rfl (x_assign (by conv => lhs; whnf)) ?_
                    refine WL.nil ?_
                    refine WC.again (⟨k + 1, by omega, fun j z hj hz => by
                          by_cases q : j = k
                          · subst q; rw [hxk] at hz; cases hz; exact ⟨h39, h48⟩
                          · exact he j z (by omega) hz, fun j z u hj hz hu => by
                          by_cases q : j + 1 = k
                          · subst q; rw [hxk] at hu; cases hu; first | (exact absurd h53 (by omega)) | (rw [show (((j + 1 : Nat) : Int) - 1).toNat = j from by omega, hz] at hyk; cases hyk; exact Classical.not_not.1 h68)
                          · exact ho j z u (by omega) hz hu, rfl, h1, rfl, H⟩) (by show _ - _ < _ - _; rw [h3]; show xs.length - ((k : Int) + 1).toNat < xs.length - (k : Int).toNat; omega)
                ·
                  refine k_rd rfl rfl (RS.yes rfl (wantY rfl rfl rfl) (x_move (by conv => lhs; whnf))) ?_
                  refine k_rd rfl rfl (RS.no rfl (wantN rfl rfl rfl)) ?_
                  refine k_rd rfl rfl (RS.no rfl (wantN rfl rfl rfl)) ?_
                  refine k_rd rfl rfl (RS.no rfl (wantN rfl rfl rfl)) ?_
                  refine k_rd rfl rfl (RS.no rfl (wantN rfl rfl rfl)) ?_
                  refine k_rd rfl rfl (RS.no rfl (wantN rfl rfl rfl)) ?_
                  refine k_rd rfl rfl (RS.no rfl (wantN rfl rfl rfl)) ?_
                  refine k_rd rfl rfl (RS.no rfl (wantN rfl rfl rfl)) ?_
                  refine k_rd rfl rfl (RS.no rfl (wantN rfl rfl rfl)) ?_
                  refine k_rd rfl rfl (RS.no rfl (wantN rfl rfl rfl)) ?_
                  refine k_rd rfl rfl (RS.no rfl (wantN rfl rfl rfl)) ?_
                  refine k_rd rfl rfl (RS.no rfl (wantN rfl rfl rfl)) ?_
                  refine k_rd rfl rfl (RS.no rfl (wantN rfl rfl rfl)) ?_
                  refine k_rd rfl rfl (RS.no rfl (wantN rfl rfl rfl)) ?_
                  refine k_rd rfl rfl (RS.no rfl (wantN rfl rfl rfl)) ?_
                  refine k_rd rfl rfl (RS.yes rfl (wantY rfl rfl rfl) (x_pick0 rfl ev_c)) ?_
                  refine k_rd rfl rfl (RS.of rfl rfl (x_pick0 rfl (by conv => lhs; whnf))) ?_
                  show _
                  refine WC.cond0 rfl ?_
                  refine WC.skip ?_
                  refine WC.region ?_
                  refine l_rd rfl rfl (x_move h3) ?_
                  refine l_rd rfl rfl (x_add rfl rfl (by omega) (by omega)) ?_
                  refine l_rd rfl rfl (x_assign (by conv => lhs; whnf)) ?_
                  refine WL.nil ?_
                  refine WC.again (⟨k + 1, by omega, fun j z hj hz => by
                        by_cases q : j = k
                        · subst q; rw [hxk] at hz; cases hz; exact ⟨h39, h48⟩
                        · exact he j z (by omega) hz, fun j z u hj hz hu => by
                        by_cases q : j + 1 = k
                        · subst q; rw [hxk] at hu; cases hu; first | (exact absurd h53 (by omega)) | (rw [show (((j + 1 : Nat) : Int) - 1).toNat = j from by omega, hz] at hyk; cases hyk; exact Classical.not_not.1 h68)
                        · exact ho j z u (by omega) hz hu, rfl, h1, rfl, H⟩) (by show _ - _ < _ - _; rw [h3]; show xs.length - ((k : Int) + 1).toNat < xs.length - (k : Int).toNat; omega)
              ·
                obtain rfl : r = .bool false := by rw [hr1, decide_eq_false h48]
                refine ⟨⟨trivial, ⟨trivial, ⟨trivial, ⟨trivial, ⟨trivial, ⟨trivial, ⟨trivial, ⟨trivial, ⟨trivial, ⟨trivial, ⟨trivial, ⟨trivial, ⟨trivial, ⟨trivial, trivial⟩⟩⟩⟩⟩⟩⟩⟩⟩⟩⟩⟩⟩⟩, ?_⟩
                refine k_rd rfl rfl (RS.yes rfl (wantY rfl rfl rfl) (x_not rfl)) ?_
                refine k_rd rfl rfl (RS.of rfl rfl (x_pick0 rfl (by conv => lhs; whnf))) ?_
                refine k_rd rfl rfl (RS.of rfl rfl (x_move (by conv => lhs; whnf))) ?_
                refine k_rd rfl rfl (RS.no rfl (wantN rfl rfl rfl)) ?_
                refine k_rd rfl rfl (RS.no rfl (wantN rfl rfl rfl)) ?_
                refine k_rd rfl rfl (RS.no rfl (wantN rfl rfl rfl)) ?_
                refine k_rd rfl rfl (RS.no rfl (wantU rfl rfl rfl)) ?_
                refine k_rd rfl rfl (RS.no rfl (wantU rfl rfl rfl)) ?_
                refine k_rd rfl rfl (RS.no rfl (wantU rfl rfl rfl)) ?_
                refine k_rd rfl rfl (RS.no rfl (wantU rfl rfl rfl)) ?_
                refine k_rd rfl rfl (RS.no rfl (wantU rfl rfl rfl)) ?_
                refine k_rd rfl rfl (RS.no rfl (wantU rfl rfl rfl)) ?_
                refine k_rd rfl rfl (RS.no rfl (wantU rfl rfl rfl)) ?_
                refine k_rd rfl rfl (RS.no rfl (wantU rfl rfl rfl)) ?_
                refine k_rd rfl rfl (RS.no rfl (wantU rfl rfl rfl)) ?_
                refine k_rd rfl rfl (RS.no rfl (wantU rfl rfl rfl)) ?_
                refine k_rd rfl rfl (RS.no rfl (wantU rfl rfl rfl)) ?_
                refine k_rd rfl rfl (RS.no rfl (wantU rfl rfl rfl)) ?_
                refine k_rd rfl rfl (RS.no rfl (wantU rfl rfl rfl)) ?_
                refine k_rd rfl rfl (RS.no rfl (wantU rfl rfl rfl)) ?_
                refine k_rd rfl rfl (RS.no rfl (wantN rfl rfl rfl)) ?_
                refine k_rd rfl rfl (RS.of rfl rfl (x_pick1 rfl ev_c)) ?_
                show _
                refine WC.cond1 rfl ?_
                refine WC.seq ?_
                refine WC.region ?_
                refine l_rd rfl rfl (x_assign ev_c) ?_
                refine WL.nil ?_
                refine WC.ret ?_
                refine atRet ?_
                exact RetM.one (v := I 2) rfl rfl ⟨by rw [chk, if_neg (fun q => h48 (((prsA_iff _ _).1 q.2.2.2.1).2.1 k x hxk).2)], H.below 1 rfl⟩
            ·
              obtain rfl : r = .bool false := by rw [hr1, decide_eq_false h39]
              refine ⟨⟨trivial, ⟨trivial, ⟨trivial, ⟨trivial, ⟨trivial, ⟨trivial, trivial⟩⟩⟩⟩⟩⟩, ?_⟩
              refine k_rd rfl rfl (RS.of rfl rfl (x_not rfl)) ?_
              refine k_rd rfl rfl (RS.of rfl rfl (x_move (by conv => lhs; whnf))) ?_
              refine k_rd rfl rfl (RS.no rfl (wantN rfl rfl rfl)) ?_
              refine k_rd rfl rfl (RS.no rfl (wantN rfl rfl rfl)) ?_
              refine k_rd rfl rfl (RS.no rfl (wantN rfl rfl rfl)) ?_
              refine k_rd rfl rfl (RS.no rfl (wantN rfl rfl rfl)) ?_
              refine k_rd rfl rfl (RS.no rfl (wantN rfl rfl rfl)) ?_
              refine k_rd rfl rfl (RS.no rfl (wantN rfl rfl rfl)) ?_
              refine k_un rfl rfl (wantN rfl rfl rfl) (⟨trivial, ⟨trivial, ⟨trivial, ⟨trivial, ⟨trivial, ⟨trivial, ⟨trivial, ⟨trivial, ⟨trivial, ⟨trivial, ⟨trivial, ⟨trivial, ⟨trivial, ⟨trivial, trivial⟩⟩⟩⟩⟩⟩⟩⟩⟩⟩⟩⟩⟩⟩) ?_
              refine k_rd rfl rfl (RS.no rfl (wantN rfl rfl rfl)) ?_
              refine k_rd rfl rfl (RS.of rfl rfl (x_pick1 rfl ev_c)) ?_
              refine k_rd rfl rfl (RS.of rfl rfl (x_move (by conv => lhs; whnf))) ?_
              refine k_rd rfl rfl (RS.no rfl (wantN rfl rfl rfl)) ?_
              refine k_rd rfl rfl (RS.no rfl (wantN rfl rfl rfl)) ?_
              refine k_rd rfl rfl (RS.no rfl (wantN rfl rfl rfl)) ?_
              refine k_rd rfl rfl (RS.no rfl (wantU rfl rfl rfl)) ?_
              refine k_rd rfl rfl (RS.no rfl (wantU rfl rfl rfl)) ?_
              refine k_rd rfl rfl (RS.no rfl (wantU rfl rfl rfl)) ?_
              refine k_rd rfl rfl (RS.no rfl (wantU rfl rfl rfl)) ?_
              refine k_rd rfl rfl (RS.no rfl (wantU rfl rfl rfl)) ?_
              refine k_rd rfl rfl (RS.no rfl (wantU rfl rfl rfl)) ?_
              refine k_rd rfl rfl (RS.no rfl (wantU rfl rfl rfl)) ?_
              refine k_rd rfl rfl (RS.no rfl (wantU rfl rfl rfl)) ?_
              refine k_rd rfl rfl (RS.no rfl (wantU rfl rfl rfl)) ?_
              refine k_rd rfl rfl (RS.no rfl (wantU rfl rfl rfl)) ?_
              refine k_rd rfl rfl (RS.no rfl (wantU rfl rfl rfl)) ?_
              refine k_rd rfl rfl (RS.no rfl (wantU rfl rfl rfl)) ?_
              refine k_rd rfl rfl (RS.no rfl (wantU rfl rfl rfl)) ?_
              refine k_rd rfl rfl (RS.no rfl (wantU rfl rfl rfl)) ?_
              refine k_rd rfl rfl (RS.no rfl (wantN rfl rfl rfl)) ?_
              refine k_rd rfl rfl (RS.of rfl rfl (x_pick1 rfl ev_c)) ?_
              show _
              refine WC.cond1 rfl ?_
              refine WC.seq ?_
              refine WC.region ?_
              refine l_rd rfl rfl (x_assign ev_c) ?_
              refine WL.nil ?_
              refine WC.ret ?_
              refine atRet ?_
              exact RetM.one (v := I 2) rfl rfl ⟨by rw [chk, if_neg (fun q => h39 (((prsA_iff _ _).1 q.2.2.2.1).2.1 k x hxk).1)], H.below 1 rfl⟩
          ·
            refine WL.nil ?_
            refine WC.cond0 rfl ?_
            refine WC.exit ?_
            refine WC.seq ?_
            refine WC.seq ?_
            refine WC.region ?_
            refine l_rd rfl rfl (x_fieldAddr Try.underlying33 rfl rfl ty3 (by decide) h1) ?_
            refine l_rd rfl rfl (x_load Try.underlying3 rfl rfl (H.cellL 0 rfl rfl)) ?_
            refine l_st rfl (s_callL cal66 (c66 _) ?_)
            rintro r w ⟨hr1, e1⟩
            have H := H.ext e1
            by_cases h73 : 0 ≤ et ∧ et ≤ 1099511627776
            ·
              obtain rfl : r = .bool true := by rw [hr1, decide_eq_true h73]
              refine l_rd rfl rfl (x_not rfl) ?_
              refine WL.nil ?_
              refine WC.cond0 rfl ?_
              refine WC.skip ?_
              refine WC.seq ?_
              refine WC.region ?_
              refine l_rd rfl rfl (x_assign ev_c) ?_
              refine WL.nil ?_
              refine WC.ret ?_
              refine atRet ?_
              exact RetM.one (v := I 0) rfl rfl ⟨by rw [chk, if_pos ⟨h6, h11, h17, prs_all (fun j z hz => he j z (by have := (List.getElem?_eq_some_iff.1 hz).1; omega) hz) (fun j z u hz hu => ho j z u (by have := (List.getElem?_eq_some_iff.1 hu).1; omega) hz hu), by omega⟩, if_pos h73], H.below 1 rfl⟩
            ·
              obtain rfl : r = .bool false := by rw [hr1, decide_eq_false h73]
              refine l_rd rfl rfl (x_not rfl) ?_
              refine WL.nil ?_
              refine WC.cond1 rfl ?_
              refine WC.seq ?_
              refine WC.region ?_
              refine l_rd rfl rfl (x_assign ev_c) ?_
              refine WL.nil ?_
              refine WC.ret ?_
              refine atRet ?_
              exact RetM.one (v := I 6) rfl rfl ⟨by rw [chk, if_pos ⟨h6, h11, h17, prs_all (fun j z hz => he j z (by have := (List.getElem?_eq_some_iff.1 hz).1; omega) hz) (fun j z u hz hu => ho j z u (by have := (List.getElem?_eq_some_iff.1 hu).1; omega) hz hu), by omega⟩, if_neg h73], H.below 1 rfl⟩
      ·
        obtain rfl : r = .bool false := by rw [hr1, decide_eq_false h17]
        refine l_gy (wantY rfl rfl rfl) rfl rfl (x_not rfl) ?_
        refine l_rd rfl rfl (x_pick0 rfl (by conv => lhs; whnf)) ?_
        refine l_rd rfl rfl (x_move (by conv => lhs; whnf)) ?_
        refine l_gn (wantN rfl rfl rfl) rfl ?_
        refine l_gn (wantN rfl rfl rfl) rfl ?_
        refine l_gn (wantN rfl rfl rfl) rfl ?_
        refine l_gn (wantN rfl rfl rfl) rfl ?_
        refine l_rd rfl rfl (x_pick1 rfl ev_c) ?_
        refine WL.nil ?_
        refine WC.cond1 rfl ?_
        refine WC.seq ?_
        refine WC.region ?_
        refine l_rd rfl rfl (x_assign ev_c) ?_
        refine WL.nil ?_
        refine WC.ret ?_
        refine atRet ?_
        exact RetM.one (v := I 2) rfl rfl ⟨by rw [chk, if_neg (fun q => h17 q.2.2.1)], H.below 1 rfl⟩
    ·
      obtain rfl : r = .bool false := by rw [hr1, decide_eq_false h11]
      refine l_gy (wantY rfl rfl rfl) rfl rfl (x_not rfl) ?_
      refine l_rd rfl rfl (x_pick0 rfl (by conv => lhs; whnf)) ?_
      refine l_rd rfl rfl (x_move (by conv => lhs; whnf)) ?_
      refine l_gn (wantN rfl rfl rfl) rfl ?_
      refine l_gn (wantN rfl rfl rfl) rfl ?_
      refine l_gn (wantN rfl rfl rfl) rfl ?_
      refine l_gn (wantN rfl rfl rfl) rfl ?_
      refine l_rd rfl rfl (x_pick1 rfl ev_c) ?_
      refine l_rd rfl rfl (x_move (by conv => lhs; whnf)) ?_
      refine l_gn (wantN rfl rfl rfl) rfl ?_
      refine l_gn (wantN rfl rfl rfl) rfl ?_
      refine l_gn (wantN rfl rfl rfl) rfl ?_
      refine l_gn (wantN rfl rfl rfl) rfl ?_
      refine l_rd rfl rfl (x_pick1 rfl ev_c) ?_
      refine WL.nil ?_
      refine WC.cond1 rfl ?_
      refine WC.seq ?_
      refine WC.region ?_
      refine l_rd rfl rfl (x_assign ev_c) ?_
      refine WL.nil ?_
      refine WC.ret ?_
      refine atRet ?_
      exact RetM.one (v := I 2) rfl rfl ⟨by rw [chk, if_neg (fun q => h11 q.2.1)], H.below 1 rfl⟩
  ·
    obtain rfl : r = .bool false := by rw [hr1, decide_eq_false h6]
    refine l_rd rfl rfl (x_not rfl) ?_
    refine l_rd rfl rfl (x_move (by conv => lhs; whnf)) ?_
    refine l_gn (wantN rfl rfl rfl) rfl ?_
    refine l_gn (wantN rfl rfl rfl) rfl ?_
    refine l_gn (wantN rfl rfl rfl) rfl ?_
    refine l_gn (wantN rfl rfl rfl) rfl ?_
    refine l_rd rfl rfl (x_pick1 rfl ev_c) ?_
    refine l_rd rfl rfl (x_move (by conv => lhs; whnf)) ?_
    refine l_gn (wantN rfl rfl rfl) rfl ?_
    refine l_gn (wantN rfl rfl rfl) rfl ?_
    refine l_gn (wantN rfl rfl rfl) rfl ?_
    refine l_gn (wantN rfl rfl rfl) rfl ?_
    refine l_rd rfl rfl (x_pick1 rfl ev_c) ?_
    refine l_rd rfl rfl (x_move (by conv => lhs; whnf)) ?_
    refine l_gn (wantN rfl rfl rfl) rfl ?_
    refine l_gn (wantN rfl rfl rfl) rfl ?_
    refine l_gn (wantN rfl rfl rfl) rfl ?_
    refine l_gn (wantN rfl rfl rfl) rfl ?_
    refine l_rd rfl rfl (x_pick1 rfl ev_c) ?_
    refine WL.nil ?_
    refine WC.cond1 rfl ?_
    refine WC.seq ?_
    refine WC.region ?_
    refine l_rd rfl rfl (x_assign ev_c) ?_
    refine WL.nil ?_
    refine WC.ret ?_
    refine atRet ?_
    exact RetM.one (v := I 2) rfl rfl ⟨by rw [chk, if_neg (fun q => h6 q.1)], H.below 1 rfl⟩

end Go.Proofs.Ytahdodijpmkddaa
set_option linter.unusedVariables false
set_option linter.unusedSimpArgs false
namespace Go.Proofs.Ytahdodijpmkddaa
open Go Go.RowKit KE Go.Proofs
theorem cal77 : Cal Try.prog 77 := ⟨_, Try.func77, rfl, by decide⟩
theorem cal78 : Cal Try.prog 78 := ⟨_, Try.func78, rfl, by decide⟩
theorem cal79 : Cal Try.prog 79 := ⟨_, Try.func79, rfl, by decide⟩

def cmpL (e f : Ed) : List Int := [cmpI e.time f.time, cmpS e.src f.src, cmpS e.dst f.dst, cmpS e.lab f.lab]
theorem cmpI_eq (a b : Int) : cmpI a b = 0 ↔ a = b := by unfold cmpI; split <;> (try split) <;> constructor <;> intro h <;> omega
theorem cmpS_eq (a b : ByteArray) : cmpS a b = 0 ↔ a = b := by
  unfold cmpS
  by_cases h1 : sLt a b
  · rw [if_pos h1]; exact ⟨fun h => absurd h (by decide), fun h => absurd (h ▸ h1) (sLt_irr _)⟩
  · rw [if_neg h1]
    by_cases h2 : a = b
    · rw [if_neg (fun h => h (.inr h2))]; exact ⟨fun _ => h2, fun _ => rfl⟩
    · rw [if_pos (fun h => h.elim h1 h2)]; exact ⟨fun h => absurd h (by decide), fun h => absurd h h2⟩
theorem cmpS_val (a b : ByteArray) (h : a ≠ b) : cmpS a b = if sLt a b then -1 else 1 := by
  unfold cmpS
  by_cases h1 : sLt a b
  · rw [if_pos h1, if_pos h1]
  · rw [if_neg h1, if_neg h1, if_pos (fun q => q.elim h1 h)]
theorem lt_flip {a b : ByteArray} (h : a ≠ b) : sLt b a ↔ ¬ sLt a b := ⟨fun q => sLt_asym q, fun q => by
  rcases sLt_tri a b with h1 | h1 | h1
  · exact absurd h1 q
  · exact absurd h1 h
  · exact h1⟩
theorem ahd_t {e f : Ed} (h : e.time ≠ f.time) : ahd e f ↔ e.time < f.time := by unfold ahd; rw [if_pos h]
theorem ahd_s {e f : Ed} (h : e.time = f.time) (h2 : e.src ≠ f.src) : ahd e f ↔ sLt e.src f.src := by unfold ahd; rw [if_neg (fun q => q h), if_pos h2]
theorem ahd_d {e f : Ed} (h : e.time = f.time) (h2 : e.src = f.src) (h3 : e.dst ≠ f.dst) : ahd e f ↔ sLt e.dst f.dst := by unfold ahd; rw [if_neg (fun q => q h), if_neg (fun q => q h2), if_pos h3]
theorem ahd_l {e f : Ed} (h : e.time = f.time) (h2 : e.src = f.src) (h3 : e.dst = f.dst) : ahd e f ↔ sLt e.lab f.lab := by unfold ahd; rw [if_neg (fun q => q h), if_neg (fun q => q h2), if_neg (fun q => q h3)]
theorem cmpE_lt {e f : Ed} (h : ahd e f) : cmpE e f = -1 := by rw [cmpE, if_pos h]
theorem cmpE_gt {e f : Ed} (h : ¬ ahd e f) (h2 : ahd f e) : cmpE e f = 1 := by rw [cmpE, if_neg h, if_pos h2]
theorem cmpE_eq {e f : Ed} (h : ¬ ahd e f) (h2 : ¬ ahd f e) : cmpE e f = 0 := by rw [cmpE, if_neg h, if_neg h2]
theorem or_skip {x : Int} {xs : List Int} (h : x = 0) : orI (x :: xs) = orI xs := by rw [orI, if_neg (fun q => q h)]
theorem or_take {x : Int} {xs : List Int} (h : x ≠ 0) : orI (x :: xs) = x := by rw [orI, if_pos h]
theorem cmpL_cmpE (e f : Ed) : orI (cmpL e f) = cmpE e f := by
  unfold cmpL
  by_cases h1 : e.time = f.time
  · rw [or_skip ((cmpI_eq _ _).2 h1)]
    by_cases h2 : e.src = f.src
    · rw [or_skip ((cmpS_eq _ _).2 h2)]
      by_cases h3 : e.dst = f.dst
      · rw [or_skip ((cmpS_eq _ _).2 h3)]
        have a1 := ahd_l h1 h2 h3
        have a2 := ahd_l h1.symm h2.symm h3.symm
        by_cases h4 : e.lab = f.lab
        · rw [or_skip ((cmpS_eq _ _).2 h4), cmpE_eq (fun q => sLt_irr _ (h4 ▸ a1.1 q)) (fun q => sLt_irr _ (h4 ▸ a2.1 q))]; rfl
        · rw [or_take (fun q => h4 ((cmpS_eq _ _).1 q)), cmpS_val _ _ h4]
          by_cases h5 : sLt e.lab f.lab
          · rw [if_pos h5, cmpE_lt (a1.2 h5)]
          · rw [if_neg h5, cmpE_gt (fun q => h5 (a1.1 q)) (a2.2 ((lt_flip h4).2 h5))]
      · have a1 := ahd_d h1 h2 h3
        have a2 := ahd_d h1.symm h2.symm (Ne.symm h3)
        rw [or_take (fun q => h3 ((cmpS_eq _ _).1 q)), cmpS_val _ _ h3]
        by_cases h5 : sLt e.dst f.dst
        · rw [if_pos h5, cmpE_lt (a1.2 h5)]
        · rw [if_neg h5, cmpE_gt (fun q => h5 (a1.1 q)) (a2.2 ((lt_flip h3).2 h5))]
    · have a1 := ahd_s h1 h2
      have a2 := ahd_s h1.symm (Ne.symm h2)
      rw [or_take (fun q => h2 ((cmpS_eq _ _).1 q)), cmpS_val _ _ h2]
      by_cases h5 : sLt e.src f.src
      · rw [if_pos h5, cmpE_lt (a1.2 h5)]
      · rw [if_neg h5, cmpE_gt (fun q => h5 (a1.1 q)) (a2.2 ((lt_flip h2).2 h5))]
  · have a1 := ahd_t h1
    have a2 := ahd_t (Ne.symm h1)
    rw [or_take (fun q => h1 ((cmpI_eq _ _).1 q))]
    unfold cmpI
    by_cases h5 : e.time < f.time
    · rw [if_pos h5, cmpE_lt (a1.2 h5)]
    · rw [if_neg h5, if_pos (by omega), cmpE_gt (fun q => h5 (a1.1 q)) (a2.2 (by omega))]
theorem c58 {e f : Ed} (w : World) : CC Try.prog 58 [.agg (edC e).toArray, .agg (edC f).toArray].toArray w (fun r w' => r = I (cmpE e f) ∧ Ext w w') := by
  obtain ⟨w0, e0⟩ : ∃ w0, w0 = w := ⟨w, rfl⟩
  subst e0
  have H := Hd.start w0
  refine CC.of (N := 27) Try.func58 rfl rfl rfl ?_
  refine WC.seq ?_
  refine WC.region ?_
  refine l_st rfl (s_box (by conv => lhs; whnf) H fun b2 w H => ?_)
  refine l_st rfl (s_box (by conv => lhs; whnf) H fun b3 w H => ?_)
  refine l_rd rfl rfl (x_assign ev_c) ?_
  refine WL.nil ?_
  refine WC.seq ?_
  refine WC.draw mixed [4, 9, 14, 19, 20, 21] [[], [0], [], [2], [0, 1, 2, 3], [], [5], [], [7], [0, 1, 2, 3, 4, 5, 6, 7, 8], [], [10], [], [12], [0, 1, 2, 3, 4, 5, 6, 7, 8, 9, 10, 11, 12, 13], [], [15], [], [17], [0, 1, 2, 3, 4, 5, 6, 7, 8, 9, 10, 11, 12, 13, 14, 15, 16, 17, 18], [0, 1, 2, 3, 4, 5, 6, 7, 8, 9, 10, 11, 12, 13, 14, 15, 16, 17, 18, 19], [0, 1, 2, 3, 4, 5, 6, 7, 8, 9, 10, 11, 12, 13, 14, 15, 16, 17, 18, 19, 20], [0, 1, 2, 3, 4, 5, 6, 7, 8, 9, 10, 11, 12, 13, 14, 15, 16, 17, 18, 19, 20, 21]] [0, 1, 2, 3, 5, 6, 7, 8, 10, 11, 12, 13, 15, 16, 17, 18, 4, 9, 14, 19, 20, 21, 22] (by kernel_rfl) ?_
  have H := H.drew
  refine k_rd rfl rfl (RS.of rfl rfl (x_fieldAddr Try.underlying33 rfl rfl ty3 (by decide) rfl)) ?_
  refine k_rd rfl rfl (RS.of rfl rfl (x_load Try.underlying3 rfl rfl (H.cellL 1 rfl rfl))) ?_
  refine k_rd rfl rfl (RS.of rfl rfl (x_fieldAddr Try.underlying33 rfl rfl ty3 (by decide) rfl)) ?_
  refine k_rd rfl rfl (RS.of rfl rfl (x_load Try.underlying3 rfl rfl (H.cellL 0 rfl rfl))) ?_
  refine k_rd rfl rfl (RS.of rfl rfl (x_fieldAddr Try.underlying33 rfl rfl ty9 (by decide) rfl)) ?_
  refine k_rd rfl rfl (RS.of rfl rfl (x_load Try.underlying9 rfl rfl (H.cellL 1 rfl rfl))) ?_
  refine k_rd rfl rfl (RS.of rfl rfl (x_fieldAddr Try.underlying33 rfl rfl ty9 (by decide) rfl)) ?_
  refine k_rd rfl rfl (RS.of rfl rfl (x_load Try.underlying9 rfl rfl (H.cellL 0 rfl rfl))) ?_
  refine k_rd rfl rfl (RS.of rfl rfl (x_fieldAddr Try.underlying33 rfl rfl ty9 (by decide) rfl)) ?_
  refine k_rd rfl rfl (RS.of rfl rfl (x_load Try.underlying9 rfl rfl (H.cellL 1 rfl rfl))) ?_
  refine k_rd rfl rfl (RS.of rfl rfl (x_fieldAddr Try.underlying33 rfl rfl ty9 (by decide) rfl)) ?_
  refine k_rd rfl rfl (RS.of rfl rfl (x_load Try.underlying9 rfl rfl (H.cellL 0 rfl rfl))) ?_
  refine k_rd rfl rfl (RS.of rfl rfl (x_fieldAddr Try.underlying33 rfl rfl ty9 (by decide) rfl)) ?_
  refine k_rd rfl rfl (RS.of rfl rfl (x_load Try.underlying9 rfl rfl (H.cellL 1 rfl rfl))) ?_
  refine k_rd rfl rfl (RS.of rfl rfl (x_fieldAddr Try.underlying33 rfl rfl ty9 (by decide) rfl)) ?_
  refine k_rd rfl rfl (RS.of rfl rfl (x_load Try.underlying9 rfl rfl (H.cellL 0 rfl rfl))) ?_
  refine k_st rfl rfl rfl (s_callL cal78 (c78 _) ?_)
  rintro _ w ⟨rfl, e1⟩
  have H := H.ext e1
  refine ⟨⟨RS.of rfl rfl (x_load Try.underlying9 rfl rfl (H.cellL 0 rfl rfl)), ⟨RS.of rfl rfl (x_fieldAddr Try.underlying33 rfl rfl ty9 (by decide) rfl), ⟨RS.of rfl rfl (x_load Try.underlying9 rfl rfl (H.cellL 1 rfl rfl)), ⟨RS.of rfl rfl (x_fieldAddr Try.underlying33 rfl rfl ty9 (by decide) rfl), ⟨RS.of rfl rfl (x_load Try.underlying9 rfl rfl (H.cellL 0 rfl rfl)), ⟨RS.of rfl rfl (x_fieldAddr Try.underlying33 rfl rfl ty9 (by decide) rfl), ⟨RS.of rfl rfl (x_load Try.underlying9 rfl rfl (H.cellL 1 rfl rfl)), ⟨RS.of rfl rfl (x_fieldAddr Try.underlying33 rfl rfl ty9 (by decide) rfl), ⟨RS.of rfl rfl (x_load Try.underlying9 rfl rfl (H.cellL 0 rfl rfl)), ⟨RS.of rfl rfl (x_fieldAddr Try.underlying33 rfl rfl ty9 (by decide) rfl), ⟨RS.of rfl rfl (x_load Try.underlying9 rfl rfl (H.cellL 1 rfl rfl)), ⟨RS.of rfl rfl (x_fieldAddr Try.underlying33 rfl rfl ty9 (by decide) rfl), ⟨trivial, ⟨trivial, ⟨trivial, ⟨trivial, trivial⟩⟩⟩⟩⟩⟩⟩⟩⟩⟩⟩⟩⟩⟩⟩⟩, ?_⟩
  refine k_st rfl rfl rfl (s_callL cal79 (c79 _) ?_)
  rintro _ w ⟨rfl, e1⟩
  have H := H.ext e1
  refine ⟨⟨RS.of rfl rfl (x_load Try.underlying9 rfl rfl (H.cellL 0 rfl rfl)), ⟨RS.of rfl rfl (x_fieldAddr Try.underlying33 rfl rfl ty9 (by decide) rfl), ⟨RS.of rfl rfl (x_load Try.underlying9 rfl rfl (H.cellL 1 rfl rfl)), ⟨RS.of rfl rfl (x_fieldAddr Try.underlying33 rfl rfl ty9 (by decide) rfl), ⟨RS.of rfl rfl (x_load Try.underlying9 rfl rfl (H.cellL 0 rfl rfl)), ⟨RS.of rfl rfl (x_fieldAddr Try.underlying33 rfl rfl ty9 (by decide) rfl), ⟨RS.of rfl rfl (x_load Try.underlying9 rfl rfl (H.cellL 1 rfl rfl)), ⟨RS.of rfl rfl (x_fieldAddr Try.underlying33 rfl rfl ty9 (by decide) rfl), ⟨trivial, ⟨trivial, ⟨trivial, ⟨trivial, ⟨trivial, ⟨trivial, ⟨trivial, ⟨trivial, trivial⟩⟩⟩⟩⟩⟩⟩⟩⟩⟩⟩⟩⟩⟩⟩⟩, ?_⟩
  refine k_st rfl rfl rfl (s_callL cal79 (c79 _) ?_)
  rintro _ w ⟨rfl, e1⟩
  have H := H.ext e1
  refine ⟨⟨RS.of rfl rfl (x_load Try.underlying9 rfl rfl (H.cellL 0 rfl rfl)), ⟨RS.of rfl rfl (x_fieldAddr Try.underlying33 rfl rfl ty9 (by decide) rfl), ⟨RS.of rfl rfl (x_load Try.underlying9 rfl rfl (H.cellL 1 rfl rfl)), ⟨RS.of rfl rfl (x_fieldAddr Try.underlying33 rfl rfl ty9 (by decide) rfl), ⟨trivial, ⟨trivial, ⟨trivial, ⟨trivial, ⟨trivial, ⟨trivial, ⟨trivial, ⟨trivial, ⟨trivial, ⟨trivial, ⟨trivial, ⟨trivial, trivial⟩⟩⟩⟩⟩⟩⟩⟩⟩⟩⟩⟩⟩⟩⟩⟩, ?_⟩
  refine k_st rfl rfl rfl (s_callL cal79 (c79 _) ?_)
  rintro _ w ⟨rfl, e1⟩
  have H := H.ext e1
  refine ⟨⟨trivial, ⟨trivial, ⟨trivial, ⟨trivial, ⟨trivial, ⟨trivial, ⟨trivial, ⟨trivial, ⟨trivial, ⟨trivial, ⟨trivial, ⟨trivial, ⟨trivial, ⟨trivial, ⟨trivial, ⟨trivial, trivial⟩⟩⟩⟩⟩⟩⟩⟩⟩⟩⟩⟩⟩⟩⟩⟩, ?_⟩
  refine k_st rfl rfl rfl (s_buildN (xs := [.tmp 9, .tmp 14, .tmp 19, .tmp 24]) (vs := (cmpL e f).map I) Try.underlying112 ty3 rfl rfl rfl rfl (by decide) (by decide) (fun v hv => by obtain ⟨x, _, rfl⟩ := List.mem_map.1 hv; rfl) H fun b25 w H => ⟨⟨trivial, ⟨trivial, ⟨trivial, ⟨trivial, ⟨trivial, ⟨trivial, ⟨trivial, ⟨trivial, ⟨trivial, ⟨trivial, ⟨trivial, ⟨trivial, ⟨trivial, ⟨trivial, ⟨trivial, ⟨trivial, trivial⟩⟩⟩⟩⟩⟩⟩⟩⟩⟩⟩⟩⟩⟩⟩⟩, ?_⟩)
  refine k_st rfl rfl rfl (s_callL cal77 (c77 (xs := cmpL e f) _ (H.sl 0 rfl)) ?_)
  rintro _ w ⟨rfl, e1⟩
  have H := H.ext e1
  refine ⟨⟨trivial, ⟨trivial, ⟨trivial, ⟨trivial, ⟨trivial, ⟨trivial, ⟨trivial, ⟨trivial, ⟨trivial, ⟨trivial, ⟨trivial, ⟨trivial, ⟨trivial, ⟨trivial, ⟨trivial, ⟨trivial, trivial⟩⟩⟩⟩⟩⟩⟩⟩⟩⟩⟩⟩⟩⟩⟩⟩, ?_⟩
  refine k_rd rfl rfl (RS.of rfl rfl (x_assign (by conv => lhs; whnf))) ?_
  show _
  refine WC.ret ?_
  refine atRet ?_
  exact RetM.one rfl (by (conv => lhs; whnf); try rfl) (⟨by rw [cmpL_cmpE], H.below 3 rfl⟩)

end Go.Proofs.Ytahdodijpmkddaa
