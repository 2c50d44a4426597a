/-
  What functions of this seat do: contracts, proved by walks, and the plain laws that they need; each with the conditions that it names.
-/
import Derived.Test.YteibnmkikdbndaaGreatDoorM1
import Derived.Test.YteibnmkikdbndaaGreatDoorE4
import Derived.Shelf.Spec.TrailingZeros
import Derived.Ground.Names7Prog
import Derived.Shelf.SlGeneric
import Derived.Shelf.SlMaps.Clone
import Derived.Shelf.Strings.Builder1
import Derived.Shelf.Small.Bits
import Derived.Shelf.Small.Wraps
import Derived.Shelf.Strings.BuilderF
import Derived.Shelf.Strings.BuilderK
import Derived.Shelf.Strconv.Itoa0
import Derived.Shelf.Strconv.Itoa1
import Derived.Shelf.LaysM
import Derived.Shelf.Strconv.Itoa2
import Derived.Shelf.Strconv.Itoa3
import Derived.Shelf.Sort.Plain
import Derived.Shelf.Slices.Turned
import Derived.Shelf.Slices.CompactS
import Derived.Ground.Names2Prog
import Derived.Shelf.Slices.SearchI
import Derived.Shelf.Slices.Cells
import Derived.Shelf.Slices.In.SortNone
import Derived.Test.YteibnmkikdbndaaGreatDoorProg
import Derived.Lib.RowBridge
set_option linter.unusedVariables false
set_option linter.unusedSimpArgs false
namespace Go.Proofs.YteibnmkikdbndaaGreatDoor
open Go Go.RowKit KE Go.Proofs
theorem ty22 : Ty Tryz.prog 22 (.int .i64 0) 1 8 := Ty.of (by kernel_rfl)
theorem ty23 : Ty Tryz.prog 23 (.slice none 0 0) 1 24 := Ty.of (by kernel_rfl)
/-! ### expressions: v: the slice in which the kids lie -/
inductive Et where
  | mk (k : Int) (l : ByteArray) (v : Value) (ks : List Et)
namespace Et
def k : Et → Int | .mk k _ _ _ => k
def l : Et → ByteArray | .mk _ l _ _ => l
def v : Et → Value | .mk _ _ v _ => v
def ks : Et → List Et | .mk _ _ _ ks => ks
end Et
abbrev etC (t : Et) : List Value := [I t.k, S t.l, t.v]
theorem etC_len (t : Et) : (etC t).length = 3 := rfl
 mutual
def parts : Et → List Et
  | .mk k l v ks => .mk k l v ks :: partsL ks
def partsL : List Et → List Et
  | [] => []
  | t :: r => parts t ++ partsL r
end
/-- memory holds the expression -/
def EtR (w : World) : Et → Prop
  | .mk _ _ v ks => RdS w v 3 etC ks ∧ ∀ t (h : t ∈ ks), EtR w t
theorem EtR.rd {w : World} {t : Et} (h : EtR w t) : RdS w t.v 3 etC t.ks := by cases t; unfold EtR at h; exact h.1
theorem EtR.kid {w : World} {t x : Et} (h : EtR w t) (hx : x ∈ t.ks) : EtR w x := by cases t; unfold EtR at h; exact h.2 x hx
theorem partsL_flat : ∀ l : List Et, partsL l = l.flatMap parts
  | [] => rfl
  | t :: r => by rw [partsL, List.flatMap_cons, partsL_flat r]
theorem parts_eq (t : Et) : parts t = t :: t.ks.flatMap parts := by cases t; rw [parts, partsL_flat]; rfl
theorem et_lt {t x : Et} (h : x ∈ t.ks) : SizeOf.sizeOf x < SizeOf.sizeOf t := by
  cases t with
  | mk k l v ks => have := List.sizeOf_lt_of_mem (show x ∈ ks from h); simp only [Et.mk.sizeOf_spec]; omega
theorem EtR.parts {w : World} : ∀ (n : Nat) {t : Et}, SizeOf.sizeOf t < n → EtR w t → ∀ p ∈ parts t, EtR w p
  | 0, t, h, _, _, _ => absurd h (by omega)
  | n + 1, t, hn, h, p, hp => by
    rw [parts_eq] at hp
    rcases List.mem_cons.1 hp with rfl | hp
    · exact h
    · obtain ⟨x, hx, hp⟩ := List.mem_flatMap.1 hp
      exact EtR.parts n (by have := et_lt hx; omega) (h.kid hx) p hp
def okP (k : Int) (l : ByteArray) (n : Nat) : Prop := if k = 1 then n = 0 ∧ fre l else if k = 2 ∨ k = 3 then 1 < n ∧ l = ⟨#[]⟩ else if k = 4 ∨ k = 5 ∨ k = 6 then n = 1 ∧ l = ⟨#[]⟩ else False
noncomputable instance (k : Int) (l : ByteArray) (n : Nat) : Decidable (okP k l n) := Classical.propDecidable _
def okT (t : Et) : Prop := okP t.k t.l t.ks.length
noncomputable instance (t : Et) : Decidable (okT t) := Classical.propDecidable _
def rightT (t : Et) : Prop := (parts t).length ≤ 24 ∧ ∀ p ∈ parts t, okT p
noncomputable instance (t : Et) : Decidable (rightT t) := Classical.propDecidable _
theorem c165 {k : Int} {l : ByteArray} {v : Value} {n : Nat} {a : Option Addr} {c : Nat} (w : World) (hn : n ≤ 140737488355328) (hv : v = .slice a n c) : CC Tryz.prog 165 [.agg #[I k, S l, v]].toArray w (fun r w' => r = .bool (decide (okP k l n)) ∧ Ext w w') := by
  obtain ⟨w0, e0⟩ : ∃ w0, w0 = w := ⟨w, rfl⟩
  subst e0
  have H := Hd.start w0
  subst hv
  refine CC.of (N := 39) Tryz.func165 rfl rfl rfl ?_
  refine WC.seq ?_
  refine WC.region ?_
  refine l_st rfl (s_box (by conv => lhs; whnf) H fun b1 w H => ?_)
  refine l_rd rfl rfl (x_assign ev_c) ?_
  refine WL.nil ?_
  refine WC.seq ?_
  refine WC.seq ?_
  refine WC.region ?_
  refine l_rd rfl rfl (x_fieldAddr (k := 2) Tryz.underlying25 rfl rfl ty23 (by decide) rfl) ?_
  refine l_rd rfl rfl (x_load Tryz.underlying23 rfl rfl (H.cellL 0 rfl rfl)) ?_
  refine l_rd rfl rfl (x_lenSlice Tryz.underlying23 rfl rfl) ?_
  refine l_rd rfl rfl (x_assign (by conv => lhs; whnf)) ?_
  refine WL.nil ?_
  refine WC.seq ?_
  refine WC.region ?_
  refine l_rd rfl rfl (x_fieldAddr (k := 0) Tryz.underlying25 rfl rfl ty22 (by decide) rfl) ?_
  refine l_rd rfl rfl (x_load Tryz.underlying22 rfl rfl (H.cellL 0 rfl rfl)) ?_
  refine WL.nil ?_
  refine WC.block ?_
  refine WC.seq ?_
  refine WC.region ?_
  refine l_rdD rfl rfl (x_eql rfl rfl) (fun h10 => ?_) (fun h10 => ?_)
  ·
    refine l_rd rfl rfl (x_assign (by conv => lhs; whnf)) ?_
    refine WL.nil ?_
    refine WC.cond1 rfl ?_
    refine WC.seq ?_
    refine WC.region ?_
    refine l_rd rfl rfl (x_move (by conv => lhs; whnf)) ?_
    refine l_rdD rfl rfl (x_eql rfl rfl) (fun h12 => ?_) (fun h12 => ?_)
    ·
      refine l_rd rfl rfl (x_move (by conv => lhs; whnf)) ?_
      refine l_gy (wantY rfl rfl rfl) rfl rfl (x_fieldAddr (k := 1) Tryz.underlying25 rfl rfl ty9 (by decide) rfl) ?_
      refine l_gy (wantY rfl rfl rfl) rfl rfl (x_load Tryz.underlying9 rfl rfl (H.cellL 0 rfl rfl)) ?_
      refine l_gst (wantY rfl rfl rfl) rfl (s_callL cal144 (c144 _) ?_)
      rintro r w ⟨hr1, e1⟩
      have H := H.ext e1
      by_cases h16 : fre l
      ·
        obtain rfl : r = .bool true := by rw [hr1, decide_eq_true h16]
        refine l_rd rfl rfl (x_pick1 rfl (by conv => lhs; whnf)) ?_
        refine l_rd rfl rfl (x_assign (by conv => lhs; whnf)) ?_
        refine WL.nil ?_
        refine WC.ret ?_
        refine atRet ?_
        exact RetM.one rfl (by (conv => lhs; whnf); try rfl) ⟨by rw [decide_eq_true (show okP k l n from by unfold okP; (repeat' split) <;> first | exact ⟨by omega, by assumption⟩ | (exfalso; omega))], H.below 1 rfl⟩
      ·
        obtain rfl : r = .bool false := by rw [hr1, decide_eq_false h16]
        refine l_rd rfl rfl (x_pick1 rfl (by conv => lhs; whnf)) ?_
        refine l_rd rfl rfl (x_assign (by conv => lhs; whnf)) ?_
        refine WL.nil ?_
        refine WC.ret ?_
        refine atRet ?_
        exact RetM.one rfl (by (conv => lhs; whnf); try rfl) ⟨by rw [decide_eq_false (show ¬ okP k l n from fun hq => by unfold okP at hq; (repeat' split at hq) <;> first | exact hq | (obtain ⟨q1, q2⟩ := hq; first | contradiction | (exfalso; omega)) | (exfalso; omega))], H.below 1 rfl⟩
    ·
      refine l_rd rfl rfl (x_move (by conv => lhs; whnf)) ?_
      refine l_gn (wantN rfl rfl rfl) rfl ?_
      refine l_gn (wantN rfl rfl rfl) rfl ?_
      refine l_gn (wantN rfl rfl rfl) rfl ?_
      refine l_rd rfl rfl (x_pick0 rfl ev_c) ?_
      refine l_rd rfl rfl (x_assign (by conv => lhs; whnf)) ?_
      refine WL.nil ?_
      refine WC.ret ?_
      refine atRet ?_
      exact RetM.one rfl (by (conv => lhs; whnf); try rfl) ⟨by rw [decide_eq_false (show ¬ okP k l n from fun hq => by unfold okP at hq; (repeat' split at hq) <;> first | exact hq | (obtain ⟨q1, q2⟩ := hq; first | contradiction | (exfalso; omega)) | (exfalso; omega))], H.below 1 rfl⟩
  ·
    refine l_rd rfl rfl (x_assign (by conv => lhs; whnf)) ?_
    refine WL.nil ?_
    refine WC.cond0 rfl ?_
    refine WC.seq ?_
    refine WC.seq ?_
    refine WC.region ?_
    refine l_rdD rfl rfl (x_eql rfl rfl) (fun h19 => ?_) (fun h19 => ?_)
    ·
      refine l_rd rfl rfl (x_assign (by conv => lhs; whnf)) ?_
      refine WL.nil ?_
      refine WC.cond1 rfl ?_
      refine WC.skip ?_
      refine WC.cond1 rfl ?_
      refine WC.seq ?_
      refine WC.region ?_
      refine l_rd rfl rfl (x_move (by conv => lhs; whnf)) ?_
      refine l_rdD rfl rfl (x_gtr rfl rfl) (fun h22 => ?_) (fun h22 => ?_)
      ·
        refine l_rd rfl rfl (x_move (by conv => lhs; whnf)) ?_
        refine l_gy (wantY rfl rfl rfl) rfl rfl (x_fieldAddr (k := 1) Tryz.underlying25 rfl rfl ty9 (by decide) rfl) ?_
        refine l_gy (wantY rfl rfl rfl) rfl rfl (x_load Tryz.underlying9 rfl rfl (H.cellL 0 rfl rfl)) ?_
        refine l_gyD (wantY rfl rfl rfl) rfl rfl (x_eqlS rfl rfl) (fun h26 => ?_) (fun h26 => ?_)
        ·
          refine l_rd rfl rfl (x_pick1 rfl (by conv => lhs; whnf)) ?_
          refine l_rd rfl rfl (x_assign (by conv => lhs; whnf)) ?_
          refine WL.nil ?_
          refine WC.ret ?_
          refine atRet ?_
          exact RetM.one rfl (by (conv => lhs; whnf); try rfl) ⟨by rw [decide_eq_true (show okP k l n from by unfold okP; (repeat' split) <;> first | exact ⟨by omega, by assumption⟩ | (exfalso; omega))], H.below 1 rfl⟩
        ·
          refine l_rd rfl rfl (x_pick1 rfl (by conv => lhs; whnf)) ?_
          refine l_rd rfl rfl (x_assign (by conv => lhs; whnf)) ?_
          refine WL.nil ?_
          refine WC.ret ?_
          refine atRet ?_
          exact RetM.one rfl (by (conv => lhs; whnf); try rfl) ⟨by rw [decide_eq_false (show ¬ okP k l n from fun hq => by unfold okP at hq; (repeat' split at hq) <;> first | exact hq | (obtain ⟨q1, q2⟩ := hq; first | contradiction | (exfalso; omega)) | (exfalso; omega))], H.below 1 rfl⟩
      ·
        refine l_rd rfl rfl (x_move (by conv => lhs; whnf)) ?_
        refine l_gn (wantN rfl rfl rfl) rfl ?_
        refine l_gn (wantN rfl rfl rfl) rfl ?_
        refine l_gn (wantN rfl rfl rfl) rfl ?_
        refine l_rd rfl rfl (x_pick0 rfl ev_c) ?_
        refine l_rd rfl rfl (x_assign (by conv => lhs; whnf)) ?_
        refine WL.nil ?_
        refine WC.ret ?_
        refine atRet ?_
        exact RetM.one rfl (by (conv => lhs; whnf); try rfl) ⟨by rw [decide_eq_false (show ¬ okP k l n from fun hq => by unfold okP at hq; (repeat' split at hq) <;> first | exact hq | (obtain ⟨q1, q2⟩ := hq; first | contradiction | (exfalso; omega)) | (exfalso; omega))], H.below 1 rfl⟩
    ·
      refine l_rd rfl rfl (x_assign (by conv => lhs; whnf)) ?_
      refine WL.nil ?_
      refine WC.cond0 rfl ?_
      refine WC.region ?_
      refine l_rdD rfl rfl (x_eql rfl rfl) (fun h20 => ?_) (fun h20 => ?_)
      ·
        refine l_rd rfl rfl (x_assign (by conv => lhs; whnf)) ?_
        refine WL.nil ?_
        refine WC.cond1 rfl ?_
        refine WC.seq ?_
        refine WC.region ?_
        refine l_rd rfl rfl (x_move (by conv => lhs; whnf)) ?_
        refine l_rdD rfl rfl (x_gtr rfl rfl) (fun h22 => ?_) (fun h22 => ?_)
        ·
          refine l_rd rfl rfl (x_move (by conv => lhs; whnf)) ?_
          refine l_gy (wantY rfl rfl rfl) rfl rfl (x_fieldAddr (k := 1) Tryz.underlying25 rfl rfl ty9 (by decide) rfl) ?_
          refine l_gy (wantY rfl rfl rfl) rfl rfl (x_load Tryz.underlying9 rfl rfl (H.cellL 0 rfl rfl)) ?_
          refine l_gyD (wantY rfl rfl rfl) rfl rfl (x_eqlS rfl rfl) (fun h26 => ?_) (fun h26 => ?_)
          ·
            refine l_rd rfl rfl (x_pick1 rfl (by conv => lhs; whnf)) ?_
            refine l_rd rfl rfl (x_assign (by conv => lhs; whnf)) ?_
            refine WL.nil ?_
            refine WC.ret ?_
            refine atRet ?_
            exact RetM.one rfl (by (conv => lhs; whnf); try rfl) ⟨by rw [decide_eq_true (show okP k l n from by unfold okP; (repeat' split) <;> first | exact ⟨by omega, by assumption⟩ | (exfalso; omega))], H.below 1 rfl⟩
          ·
            refine l_rd rfl rfl (x_pick1 rfl (by conv => lhs; whnf)) ?_
            refine l_rd rfl rfl (x_assign (by conv => lhs; whnf)) ?_
            refine WL.nil ?_
            refine WC.ret ?_
            refine atRet ?_
            exact RetM.one rfl (by (conv => lhs; whnf); try rfl) ⟨by rw [decide_eq_false (show ¬ okP k l n from fun hq => by unfold okP at hq; (repeat' split at hq) <;> first | exact hq | (obtain ⟨q1, q2⟩ := hq; first | contradiction | (exfalso; omega)) | (exfalso; omega))], H.below 1 rfl⟩
        ·
          refine l_rd rfl rfl (x_move (by conv => lhs; whnf)) ?_
          refine l_gn (wantN rfl rfl rfl) rfl ?_
          refine l_gn (wantN rfl rfl rfl) rfl ?_
          refine l_gn (wantN rfl rfl rfl) rfl ?_
          refine l_rd rfl rfl (x_pick0 rfl ev_c) ?_
          refine l_rd rfl rfl (x_assign (by conv => lhs; whnf)) ?_
          refine WL.nil ?_
          refine WC.ret ?_
          refine atRet ?_
          exact RetM.one rfl (by (conv => lhs; whnf); try rfl) ⟨by rw [decide_eq_false (show ¬ okP k l n from fun hq => by unfold okP at hq; (repeat' split at hq) <;> first | exact hq | (obtain ⟨q1, q2⟩ := hq; first | contradiction | (exfalso; omega)) | (exfalso; omega))], H.below 1 rfl⟩
      ·
        refine l_rd rfl rfl (x_assign (by conv => lhs; whnf)) ?_
        refine WL.nil ?_
        refine WC.cond0 rfl ?_
        refine WC.seq ?_
        refine WC.seq ?_
        refine WC.region ?_
        refine l_rdD rfl rfl (x_eql rfl rfl) (fun h29 => ?_) (fun h29 => ?_)
        ·
          refine l_rd rfl rfl (x_assign (by conv => lhs; whnf)) ?_
          refine WL.nil ?_
          refine WC.cond1 rfl ?_
          refine WC.skip ?_
          refine WC.cond1 rfl ?_
          refine WC.seq ?_
          refine WC.region ?_
          refine l_rd rfl rfl (x_move (by conv => lhs; whnf)) ?_
          refine l_rdD rfl rfl (x_eql rfl rfl) (fun h33 => ?_) (fun h33 => ?_)
          ·
            refine l_rd rfl rfl (x_move (by conv => lhs; whnf)) ?_
            refine l_gy (wantY rfl rfl rfl) rfl rfl (x_fieldAddr (k := 1) Tryz.underlying25 rfl rfl ty9 (by decide) rfl) ?_
            refine l_gy (wantY rfl rfl rfl) rfl rfl (x_load Tryz.underlying9 rfl rfl (H.cellL 0 rfl rfl)) ?_
            refine l_gyD (wantY rfl rfl rfl) rfl rfl (x_eqlS rfl rfl) (fun h37 => ?_) (fun h37 => ?_)
            ·
              refine l_rd rfl rfl (x_pick1 rfl (by conv => lhs; whnf)) ?_
              refine l_rd rfl rfl (x_assign (by conv => lhs; whnf)) ?_
              refine WL.nil ?_
              refine WC.ret ?_
              refine atRet ?_
              exact RetM.one rfl (by (conv => lhs; whnf); try rfl) ⟨by rw [decide_eq_true (show okP k l n from by unfold okP; (repeat' split) <;> first | exact ⟨by omega, by assumption⟩ | (exfalso; omega))], H.below 1 rfl⟩
            ·
              refine l_rd rfl rfl (x_pick1 rfl (by conv => lhs; whnf)) ?_
              refine l_rd rfl rfl (x_assign (by conv => lhs; whnf)) ?_
              refine WL.nil ?_
              refine WC.ret ?_
              refine atRet ?_
              exact RetM.one rfl (by (conv => lhs; whnf); try rfl) ⟨by rw [decide_eq_false (show ¬ okP k l n from fun hq => by unfold okP at hq; (repeat' split at hq) <;> first | exact hq | (obtain ⟨q1, q2⟩ := hq; first | contradiction | (exfalso; omega)) | (exfalso; omega))], H.below 1 rfl⟩
          ·
            refine l_rd rfl rfl (x_move (by conv => lhs; whnf)) ?_
            refine l_gn (wantN rfl rfl rfl) rfl ?_
            refine l_gn (wantN rfl rfl rfl) rfl ?_
            refine l_gn (wantN rfl rfl rfl) rfl ?_
            refine l_rd rfl rfl (x_pick0 rfl ev_c) ?_
            refine l_rd rfl rfl (x_assign (by conv => lhs; whnf)) ?_
            refine WL.nil ?_
            refine WC.ret ?_
            refine atRet ?_
            exact RetM.one rfl (by (conv => lhs; whnf); try rfl) ⟨by rw [decide_eq_false (show ¬ okP k l n from fun hq => by unfold okP at hq; (repeat' split at hq) <;> first | exact hq | (obtain ⟨q1, q2⟩ := hq; first | contradiction | (exfalso; omega)) | (exfalso; omega))], H.below 1 rfl⟩
        ·
          refine l_rd rfl rfl (x_assign (by conv => lhs; whnf)) ?_
          refine WL.nil ?_
          refine WC.cond0 rfl ?_
          refine WC.seq ?_
          refine WC.region ?_
          refine l_rdD rfl rfl (x_eql rfl rfl) (fun h30 => ?_) (fun h30 => ?_)
          ·
            refine l_rd rfl rfl (x_assign (by conv => lhs; whnf)) ?_
            refine WL.nil ?_
            refine WC.cond1 rfl ?_
            refine WC.skip ?_
            refine WC.cond1 rfl ?_
            refine WC.seq ?_
            refine WC.region ?_
            refine l_rd rfl rfl (x_move (by conv => lhs; whnf)) ?_
            refine l_rdD rfl rfl (x_eql rfl rfl) (fun h33 => ?_) (fun h33 => ?_)
            ·
              refine l_rd rfl rfl (x_move (by conv => lhs; whnf)) ?_
              refine l_gy (wantY rfl rfl rfl) rfl rfl (x_fieldAddr (k := 1) Tryz.underlying25 rfl rfl ty9 (by decide) rfl) ?_
              refine l_gy (wantY rfl rfl rfl) rfl rfl (x_load Tryz.underlying9 rfl rfl (H.cellL 0 rfl rfl)) ?_
              refine l_gyD (wantY rfl rfl rfl) rfl rfl (x_eqlS rfl rfl) (fun h37 => ?_) (fun h37 => ?_)
              ·
                refine l_rd rfl rfl (x_pick1 rfl (by conv => lhs; whnf)) ?_
                refine l_rd rfl rfl (x_assign (by conv => lhs; whnf)) ?_
                refine WL.nil ?_
                refine WC.ret ?_
                refine atRet ?_
                exact RetM.one rfl (by (conv => lhs; whnf); try rfl) ⟨by rw [decide_eq_true (show okP k l n from by unfold okP; (repeat' split) <;> first | exact ⟨by omega, by assumption⟩ | (exfalso; omega))], H.below 1 rfl⟩
              ·
                refine l_rd rfl rfl (x_pick1 rfl (by conv => lhs; whnf)) ?_
                refine l_rd rfl rfl (x_assign (by conv => lhs; whnf)) ?_
                refine WL.nil ?_
                refine WC.ret ?_
                refine atRet ?_
                exact RetM.one rfl (by (conv => lhs; whnf); try rfl) ⟨by rw [decide_eq_false (show ¬ okP k l n from fun hq => by unfold okP at hq; (repeat' split at hq) <;> first | exact hq | (obtain ⟨q1, q2⟩ := hq; first | contradiction | (exfalso; omega)) | (exfalso; omega))], H.below 1 rfl⟩
            ·
              refine l_rd rfl rfl (x_move (by conv => lhs; whnf)) ?_
              refine l_gn (wantN rfl rfl rfl) rfl ?_
              refine l_gn (wantN rfl rfl rfl) rfl ?_
              refine l_gn (wantN rfl rfl rfl) rfl ?_
              refine l_rd rfl rfl (x_pick0 rfl ev_c) ?_
              refine l_rd rfl rfl (x_assign (by conv => lhs; whnf)) ?_
              refine WL.nil ?_
              refine WC.ret ?_
              refine atRet ?_
              exact RetM.one rfl (by (conv => lhs; whnf); try rfl) ⟨by rw [decide_eq_false (show ¬ okP k l n from fun hq => by unfold okP at hq; (repeat' split at hq) <;> first | exact hq | (obtain ⟨q1, q2⟩ := hq; first | contradiction | (exfalso; omega)) | (exfalso; omega))], H.below 1 rfl⟩
          ·
            refine l_rd rfl rfl (x_assign (by conv => lhs; whnf)) ?_
            refine WL.nil ?_
            refine WC.cond0 rfl ?_
            refine WC.region ?_
            refine l_rdD rfl rfl (x_eql rfl rfl) (fun h31 => ?_) (fun h31 => ?_)
            ·
              refine l_rd rfl rfl (x_assign (by conv => lhs; whnf)) ?_
              refine WL.nil ?_
              refine WC.cond1 rfl ?_
              refine WC.seq ?_
              refine WC.region ?_
              refine l_rd rfl rfl (x_move (by conv => lhs; whnf)) ?_
              refine l_rdD rfl rfl (x_eql rfl rfl) (fun h33 => ?_) (fun h33 => ?_)
              ·
                refine l_rd rfl rfl (x_move (by conv => lhs; whnf)) ?_
                refine l_gy (wantY rfl rfl rfl) rfl rfl (x_fieldAddr (k := 1) Tryz.underlying25 rfl rfl ty9 (by decide) rfl) ?_
                refine l_gy (wantY rfl rfl rfl) rfl rfl (x_load Tryz.underlying9 rfl rfl (H.cellL 0 rfl rfl)) ?_
                refine l_gyD (wantY rfl rfl rfl) rfl rfl (x_eqlS rfl rfl) (fun h37 => ?_) (fun h37 => ?_)
                ·
                  refine l_rd rfl rfl (x_pick1 rfl (by conv => lhs; whnf)) ?_
                  refine l_rd rfl rfl (x_assign (by conv => lhs; whnf)) ?_
                  refine WL.nil ?_
                  refine WC.ret ?_
                  refine atRet ?_
                  exact RetM.one rfl (by (conv => lhs; whnf); try rfl) ⟨by rw [decide_eq_true (show okP k l n from by unfold okP; (repeat' split) <;> first | exact ⟨by omega, by assumption⟩ | (exfalso; omega))], H.below 1 rfl⟩
                ·
                  refine l_rd rfl rfl (x_pick1 rfl (by conv => lhs; whnf)) ?_
                  refine l_rd rfl rfl (x_assign (by conv => lhs; whnf)) ?_
                  refine WL.nil ?_
                  refine WC.ret ?_
                  refine atRet ?_
                  exact RetM.one rfl (by (conv => lhs; whnf); try rfl) ⟨by rw [decide_eq_false (show ¬ okP k l n from fun hq => by unfold okP at hq; (repeat' split at hq) <;> first | exact hq | (obtain ⟨q1, q2⟩ := hq; first | contradiction | (exfalso; omega)) | (exfalso; omega))], H.below 1 rfl⟩
              ·
                refine l_rd rfl rfl (x_move (by conv => lhs; whnf)) ?_
                refine l_gn (wantN rfl rfl rfl) rfl ?_
                refine l_gn (wantN rfl rfl rfl) rfl ?_
                refine l_gn (wantN rfl rfl rfl) rfl ?_
                refine l_rd rfl rfl (x_pick0 rfl ev_c) ?_
                refine l_rd rfl rfl (x_assign (by conv => lhs; whnf)) ?_
                refine WL.nil ?_
                refine WC.ret ?_
                refine atRet ?_
                exact RetM.one rfl (by (conv => lhs; whnf); try rfl) ⟨by rw [decide_eq_false (show ¬ okP k l n from fun hq => by unfold okP at hq; (repeat' split at hq) <;> first | exact hq | (obtain ⟨q1, q2⟩ := hq; first | contradiction | (exfalso; omega)) | (exfalso; omega))], H.below 1 rfl⟩
            ·
              refine l_rd rfl rfl (x_assign (by conv => lhs; whnf)) ?_
              refine WL.nil ?_
              refine WC.cond0 rfl ?_
              refine WC.skip ?_
              refine WC.seq ?_
              refine WC.region ?_
              refine l_rd rfl rfl (x_assign ev_c) ?_
              refine WL.nil ?_
              refine WC.ret ?_
              refine atRet ?_
              exact RetM.one rfl (by (conv => lhs; whnf); try rfl) ⟨by rw [decide_eq_false (show ¬ okP k l n from fun hq => by unfold okP at hq; (repeat' split at hq) <;> first | exact hq | (obtain ⟨q1, q2⟩ := hq; first | contradiction | (exfalso; omega)) | (exfalso; omega))], H.below 1 rfl⟩
theorem ty25 : Ty Tryz.prog 25 (.agg #[(.int .i64 0), (.string ⟨#[]⟩), (.slice none 0 0)]) 3 48 := Ty.of (by kernel_rfl)
theorem cal180 : Cal Tryz.prog 180 := ⟨_, Tryz.func180, rfl, by decide⟩
def eE : Et → List Value → Hp := fun x vs => fun _ => vs = [.agg (etC x).toArray]
theorem etC_one {w : World} {x : Et} (h : EtR w x) : ((etC x).all fun v => oneC v) = true := by
  obtain ⟨a, c, hv⟩ := h.rd.shape
  simp only [etC, hv]; rfl
theorem app3 {α : Type} {a b c : List α} {x : α} : a ++ x :: (b ++ c) = (a ++ x :: b) ++ c := by simp
theorem flat_split {ks : List Et} {k : Nat} {x : Et} (h : ks[k]? = some x) : ks.flatMap parts = (ks.take k).flatMap parts ++ (parts x ++ (ks.drop (k + 1)).flatMap parts) := by
  obtain ⟨hk, e⟩ := List.getElem?_eq_some_iff.1 h
  have : ks = ks.take k ++ x :: ks.drop (k + 1) := by rw [← e, ← List.drop_eq_getElem_cons hk, List.take_append_drop]
  conv => lhs; rw [this]
  rw [List.flatMap_append, List.flatMap_cons]
theorem take_flat {ks : List Et} {k : Nat} {x : Et} (h : ks[k]? = some x) : (ks.take (k + 1)).flatMap parts = (ks.take k).flatMap parts ++ parts x := by
  rw [List.take_add_one, h]; simp
theorem c180 : ∀ (N : Nat) {t : Et} (hN : SizeOf.sizeOf t < N) {s : Sy} [NoEx s] {w0 : World} {l : Nat} {xs pre rest : List Et} {J X : List Et → Hp} {L : List Hp} (w : World) (ht : EtR w0 t) (hy : YS Tryz.prog s l eE xs J X) (hxs : xs = pre ++ parts t ++ rest) (H : Hd s w (J pre :: fr w0 :: L)), CC Tryz.prog 180 [.agg (etC t).toArray, .func (.yield l) #[] #[]].toArray w (fun r w' => (r = .bool true ∧ Hd s w' (J (pre ++ parts t) :: fr w0 :: L)) ∨ (r = .bool false ∧ ∃ p y q, xs = p ++ y :: q ∧ Hd s w' (X (p ++ [y]) :: fr w0 :: L))) := by
  intro N
  induction N
  · intro t hN; exact absurd hN (by omega)
  rename_i N ih
  intro t hN s hs0 w0 l xs pre rest J X L w ht hy hxs H
  obtain ⟨ks, hks⟩ : ∃ ks, ks = t.ks := ⟨_, rfl⟩
  have hr : RdS w0 t.v 3 etC ks := hks ▸ ht.rd
  obtain ⟨a, c, hv⟩ := hr.shape
  have hle := hr.le
  have hx1 : xs = pre ++ (t) :: (ks.flatMap parts ++ rest) := by rw [hxs, parts_eq]; simp [hks]
  refine CC.of (N := 23) Tryz.func180 rfl rfl rfl ?_
  refine WC.seq ?_
  refine WC.region ?_
  refine l_st rfl (s_box (by conv => lhs; whnf) H fun b2 w H => ?_)
  refine l_rd rfl rfl (x_assign ev_c) ?_
  refine WL.nil ?_
  refine WC.seq ?_
  refine WC.seq ?_
  refine WC.region ?_
  refine l_rd rfl rfl (x_move (by conv => lhs; whnf)) ?_
  refine l_rd rfl rfl (x_loadF (vs := [_, _, _]) Tryz.underlying25 rfl ty25 rfl rfl (H.cellsL 0 rfl rfl)) ?_
  refine l_st rfl (s_yieldL rfl (hy pre (t) _ [.agg (etC (t)).toArray] _ _ hx1 (Hd.swp (Hd.pure rfl (Hd.arrT [_, _, _] [1, 0, 2] (by decide) rfl H)))) ?_)
  rintro v w (⟨rfl, H⟩ | ⟨rfl, H⟩)
  ·
    refine l_rd rfl rfl (x_not rfl) ?_
    refine WL.nil ?_
    refine WC.cond0 rfl ?_
    refine WC.skip ?_
    refine WC.seq ?_
    refine WC.seq ?_
    refine WC.region ?_
    refine l_rd rfl rfl (x_fieldAddr (k := 2) Tryz.underlying25 rfl rfl ty23 (by decide) rfl) ?_
    refine l_rd rfl rfl (x_load Tryz.underlying23 rfl rfl (H.cellL 1 rfl rfl)) ?_
    refine l_rd rfl rfl (x_lenSlice Tryz.underlying23 rfl hv) ?_
    refine l_rd rfl rfl (x_move ev_c) ?_
    refine WL.nil ?_
    refine WC.block ?_
    refine WC.loop (fun ρ ds w => ∃ k : Nat, k ≤ ks.length ∧ ρ 14 = I k ∧ ρ 13 = I ks.length ∧ ρ 12 = .slice a ks.length c ∧ ρ 1 = .func (.yield l) #[] #[] ∧ ds = [] ∧ Hd s w (J (pre ++ t :: (ks.take k).flatMap parts) :: fr w0 :: L)) (fun ρ w => ks.length - (match ρ 14 with | .int _ k => k.toNat | _ => 0)) (⟨0, Nat.zero_le _, rfl, rfl, hv, rfl, rfl, Hd.arrT [_, _, _] [0, 2] (by decide) rfl H⟩) ?_
    repeat clear H
    rintro ρ ds w ⟨k, hk, h14, h13, h12, h1, rfl, H⟩
    refine WC.seq ?_
    refine WC.region ?_
    refine l_rdD rfl rfl (x_lss h14 h13) (fun h15 => ?_) (fun h15 => ?_)
    ·
      refine WL.nil ?_
      refine WC.seq ?_
      refine WC.cond1 rfl ?_
      refine WC.skip ?_
      refine WC.seq ?_
      refine WC.block ?_
      refine WC.seq ?_
      obtain ⟨x, hxk⟩ := lt_get (show k < ks.length by omega)
      obtain ⟨b1, o1, rfl, hc1⟩ := (show RdS w0 (.slice a ks.length c) 3 etC ks from hv ▸ hr).el etC_len hxk
      have hmem : x ∈ (t).ks := hks ▸ List.mem_of_getElem? hxk
      refine WC.region ?_
      refine l_rd rfl rfl (x_indexAddr Tryz.underlying23 ty25 h12 h14 (by omega) (by omega)) ?_
      refine l_rd rfl rfl (x_loadF (vs := [_, _, _]) Tryz.underlying25 rfl ty25 rfl rfl (sub_row 0 (fun j u hj => (H.old 1 rfl).cell (hc1 j u hj)) rfl)) ?_
      refine l_st rfl (s_alloc ty25 H fun b6 w H => ?_)
      refine l_no (s_stA 0 rfl ty25 rfl (by conv => lhs; whnf) rfl (etC_one (ht.kid hmem)) rfl H (fun w H => ?_))
      refine WL.nil ?_
      refine WC.seq ?_
      refine WC.region ?_
      refine l_rd rfl rfl (x_loadF (vs := [_, _, _]) Tryz.underlying25 rfl ty25 rfl rfl (H.cellsL 0 rfl rfl)) ?_
      refine l_rd rfl rfl (x_move h1) ?_
      refine l_st rfl (s_callL cal180 (ih (t := x) (pre := pre ++ t :: (ks.take k).flatMap parts) (rest := (ks.drop (k + 1)).flatMap parts ++ rest) (by have h1 : SizeOf.sizeOf x < SizeOf.sizeOf (t) := et_lt hmem; omega) _ (ht.kid hmem) hy (by rw [hxs, parts_eq, ← hks, flat_split hxk]; simp) (Hd.arrT [_, _, _] [1, 2, 0] (by decide) rfl H)) ?_)
      rintro v w (⟨rfl, H⟩ | ⟨rfl, p, y, q, hq, H⟩)
      ·
        refine l_rd rfl rfl (x_not rfl) ?_
        refine WL.nil ?_
        refine WC.cond0 rfl ?_
        refine WC.skip ?_
        refine WC.region ?_
        refine l_rd rfl rfl (x_add h14 rfl (by omega) (by omega)) ?_
        refine l_rd rfl rfl (x_move (by conv => lhs; whnf)) ?_
        refine WL.nil ?_
        refine WC.again (⟨k + 1, by omega, rfl, h13, h12, h1, rfl, by rw [take_flat hxk, app3]; exact Hd.arrT [_, _, _] [0, 1] (by decide) rfl H⟩) (by show _ - _ < _ - _; rw [h14]; show ks.length - ((k : Int) + 1).toNat < ks.length - (k : Int).toNat; omega)
      ·
        refine l_rd rfl rfl (x_not rfl) ?_
        refine WL.nil ?_
        refine WC.cond1 rfl ?_
        refine WC.seq ?_
        refine WC.region ?_
        refine l_rd rfl rfl (x_assign ev_c) ?_
        refine WL.nil ?_
        refine WC.ret ?_
        refine atRet ?_
        exact RetM.one rfl (by (conv => lhs; whnf); try rfl) (.inr ⟨rfl, p, y, q, hq, Hd.arrT [_, _, _] [0, 1] (by decide) rfl H⟩)
    ·
      refine WL.nil ?_
      refine WC.seq ?_
      refine WC.cond0 rfl ?_
      refine WC.exit ?_
      refine WC.seq ?_
      refine WC.region ?_
      refine l_rd rfl rfl (x_assign ev_c) ?_
      refine WL.nil ?_
      refine WC.ret ?_
      refine atRet ?_
      exact RetM.one rfl (by (conv => lhs; whnf); try rfl) (.inl ⟨rfl, by rw [List.take_of_length_le (show ks.length ≤ k by omega)] at H; rw [parts_eq, ← hks]; exact H⟩)
  ·
    refine l_rd rfl rfl (x_not rfl) ?_
    refine WL.nil ?_
    refine WC.cond1 rfl ?_
    refine WC.seq ?_
    refine WC.region ?_
    refine l_rd rfl rfl (x_assign ev_c) ?_
    refine WL.nil ?_
    refine WC.ret ?_
    refine atRet ?_
    exact RetM.one rfl (by (conv => lhs; whnf); try rfl) (.inr ⟨rfl, pre, _, _, hx1, Hd.arrT [_, _, _] [0, 2] (by decide) rfl H⟩)
theorem ty4 : Ty Tryz.prog 4 (.bool false) 1 1 := Ty.of (by kernel_rfl)
theorem cal125 : Cal Tryz.prog 125 := ⟨_, Tryz.func125, rfl, by decide⟩
theorem cal165 : Cal Tryz.prog 165 := ⟨_, Tryz.func165, rfl, by decide⟩
theorem cal179 : Cal Tryz.prog 179 := ⟨_, Tryz.func179, rfl, by decide⟩
theorem len_snocI {α : Type} {l : List α} {x : α} : (((l ++ [x]).length : Nat) : Int) = (l.length : Int) + 1 := by simp
theorem it179 {s : Sy} [NoEx s] {w0 : World} {b1 : Nat} {t : Et} (ht : EtR w0 t) : IT Tryz.prog s 179 [.pointer (some ⟨b1, 0, none⟩)] eE (parts t) (star (pt b1 (.cells (etC t).toArray 25 (0, 0))) (fr w0)) (fun _ => star (pt b1 (.cells (etC t).toArray 25 (0, 0))) (fr w0)) := by
  intro l J X w L hy H
  have H := Hd.unstarAt [_] H
  refine CC.of (N := 6) Tryz.func179 rfl rfl rfl ?_
  refine WC.region ?_
  refine l_rd rfl rfl (x_loadF (vs := [_, _, _]) Tryz.underlying25 rfl ty25 rfl rfl (H.cellsL 1 rfl rfl)) ?_
  refine l_rd rfl rfl (x_move (by conv => lhs; whnf)) ?_
  refine l_st rfl (s_callL cal180 (c180 _ (pre := []) (rest := []) (Nat.lt_succ_self _) _ ht hy (by simp) (Hd.arrT [_, _, _] [0, 2, 1] (by decide) rfl H)) ?_)
  rintro v w (⟨rfl, H⟩ | ⟨rfl, p, y, q, hq, H⟩)
  ·
    refine WL.nil ?_
    refine atEnd ?_
    exact RetM.none' rfl (.inl (Hd.starAt [_] (Hd.arrT [_, _, _] [0, 2, 1] (by decide) rfl H)))
  ·
    refine WL.nil ?_
    refine atEnd ?_
    exact RetM.none' rfl (.inr ⟨p, y, q, hq, Hd.starAt [_] (Hd.arrT [_, _, _] [0, 2, 1] (by decide) rfl H)⟩)
theorem c125 {s : Sy} [NoEx s] {L : List Hp} {t : Et} (w : World) (H : Hd s w L) : CC Tryz.prog 125 [.agg (etC t).toArray].toArray w (fun r w' => ∃ b1 : Nat, r = .func (.func 179) #[] #[.pointer (some ⟨b1, 0, none⟩)] ∧ Hd s w' (pt b1 (.cells (etC t).toArray 25 (0, 0)) :: L)) := by
  refine CC.of (N := 4) Tryz.func125 rfl rfl rfl ?_
  refine WC.seq ?_
  refine WC.region ?_
  refine l_st rfl (s_box (by conv => lhs; whnf) H fun b1 w H => ?_)
  refine l_rd rfl rfl (x_assign ev_c) ?_
  refine WL.nil ?_
  refine WC.seq ?_
  refine WC.region ?_
  refine l_rd rfl rfl (x_makeFuncL) ?_
  refine l_rd rfl rfl (x_assign (by conv => lhs; whnf)) ?_
  refine WL.nil ?_
  refine WC.ret ?_
  refine atRet ?_
  exact RetM.one rfl (by (conv => lhs; whnf); try rfl) (⟨_, rfl, H⟩)
theorem c110 {t : Et} (w : World) (ht : EtR w t) : CC Tryz.prog 110 [.agg (etC t).toArray].toArray w (fun r w' => r = .bool (decide (rightT t)) ∧ Ext w w') := by
  obtain ⟨w0, e0⟩ : ∃ w0, w0 = w := ⟨w, rfl⟩
  subst e0
  have H := Hd.start w0
  refine CC.of (N := 17) Tryz.func110 rfl rfl rfl ?_
  refine WC.seq ?_
  refine WC.region ?_
  refine l_st rfl (s_box (by conv => lhs; whnf) H fun b1 w H => ?_)
  refine l_st rfl (s_alloc ty4 H fun b2 w H => ?_)
  refine WL.nil ?_
  refine WC.seq ?_
  refine WC.region ?_
  refine l_st rfl (s_alloc ty3 H fun b3 w H => ?_)
  refine l_no (s_st 0 rfl ty3 rfl ev_c rfl rfl H fun w H => ?_)
  refine WL.nil ?_
  refine WC.seq ?_
  refine WC.seq ?_
  refine WC.region ?_
  refine l_rd rfl rfl (x_loadF (vs := [_, _, _]) Tryz.underlying25 rfl ty25 rfl rfl (H.cellsL 2 rfl rfl)) ?_
  have H : Hd (sy w0) w ([_, _, _, _] ++ []) := H
  refine l_st rfl (s_callL cal125 (c125 _ H) ?_)
  rintro _ w ⟨b5, rfl, H⟩
  refine WL.nil ?_
  refine WC.block ?_
  have H := Hd.starAt [_] (PH.mk (φ := ([] : List Et).length ≤ 24 ∧ ∀ p ∈ ([] : List Et), okT p) (A := [_, _]) ⟨by simp, fun p h => by cases h⟩ (Hd.arrT [_, _, _, _, _] [2, 1, 0, 4, 3] (by decide) rfl (show Hd _ _ ([_, _, _, _, _] ++ []) from H)))
  refine WC.rangeFn (P := Tryz.prog) (caps := [.pointer (some ⟨b5, 0, none⟩)]) (E := eE) (xs := parts t) (A := star (pt b5 (.cells (etC t).toArray 25 (0, 0))) (fr w0)) (B := fun _ => star (pt b5 (.cells (etC t).toArray 25 (0, 0))) (fr w0)) (I := fun pre => PH (pre.length ≤ 24 ∧ ∀ p ∈ pre, okT p) [pt b2 (.cells #[.bool false] 4 (0, 0)), pt b3 (.cells #[I (pre.length : Int)] 3 (0, 0))]) (X := fun c _ => PH (c = .ret ∧ ¬ rightT t) [pt b2 (.cells #[.bool false] 4 (0, 0))]) (L := [pt b1 (.cells (etC t).toArray 25 (0, 0))]) rfl cal179 (by decide) (fun x vs h hv => by have : vs = _ := hv; rw [this]; rfl) (it179 ht) H ?_ ?_ ?_
  ·
    intro l pre x rest vs w L' L2 hxs hrec H
    obtain ⟨hh, _, hvs⟩ := H.fact_at 1 rfl
    have hvs : vs = [.agg (etC x).toArray] := hvs
    subst hvs
    refine WC.region ?_
    refine l_st rfl (s_alloc ty25 H fun b4 w H => ?_)
    have hxt : EtR w0 x := ht.parts _ (Nat.lt_succ_self _) x (by rw [hxs]; simp)
    refine l_no (s_stA 0 rfl ty25 rfl (by conv => lhs; whnf) rfl (etC_one hxt) rfl H (fun w H => ?_))
    refine WL.nil ?_
    refine ⟨⟨[_, _, _], H⟩, fun w2 hw2 => ?_⟩
    clear hrec
    have H := Hd.arrT [_, _, _] [1, 0] (by decide) rfl (hw2 [_, _, _] H)
    clear hw2
    obtain ⟨⟨hpl, hpo⟩, H⟩ := PH.opn H
    obtain ⟨a, c, hv⟩ := hxt.rd.shape
    have hle := hxt.rd.le
    refine WC.block ?_
    refine WC.seq ?_
    refine WC.region ?_
    refine l_rd rfl rfl (x_load Tryz.underlying3 rfl rfl (H.cellL 1 rfl rfl)) ?_
    refine l_rd rfl rfl (x_add rfl rfl (by omega) (by omega)) ?_
    refine l_no (s_st 1 rfl ty3 rfl (by conv => lhs; whnf) rfl rfl H fun w H => ?_)
    refine WL.nil ?_
    refine WC.seq ?_
    refine WC.region ?_
    refine l_rd rfl rfl (x_load Tryz.underlying3 rfl rfl (H.cellL 1 rfl rfl)) ?_
    refine l_rdD rfl rfl (x_gtr rfl rfl) (fun h11 => ?_) (fun h11 => ?_)
    ·
      have hno : ¬ rightT t := fun h => by have h2 := h.1; rw [hxs] at h2; simp only [List.length_append, List.length_cons] at h2; omega
      refine l_rd rfl rfl (x_move (by conv => lhs; whnf)) ?_
      refine l_gn (wantN rfl rfl rfl) rfl ?_
      refine l_gn (wantN rfl rfl rfl) rfl ?_
      refine l_gn (wantN rfl rfl rfl) rfl ?_
      refine l_rd rfl rfl (x_pick1 rfl ev_c) ?_
      refine WL.nil ?_
      refine WC.cond1 rfl ?_
      refine WC.seq ?_
      refine WC.region ?_
      refine l_no (s_st 0 rfl ty4 rfl ev_c rfl rfl H fun w H => ?_)
      refine WL.nil ?_
      refine WC.ret ?_
      show Hd _ _ (_ :: _)
      exact PH.mk ⟨rfl, hno⟩ (Hd.arrT [_, _, _] [0] (by decide) rfl H)
    ·
      refine l_rd rfl rfl (x_move (by conv => lhs; whnf)) ?_
      refine l_gy (wantY rfl rfl rfl) rfl rfl (x_loadF (vs := [_, _, _]) Tryz.underlying25 rfl ty25 rfl rfl (H.cellsL 2 rfl rfl)) ?_
      refine l_gst (wantY rfl rfl rfl) rfl (s_callL cal165 (c165 (n := x.ks.length) _ hle hv) ?_)
      rintro r w ⟨hr1, e1⟩
      have H := H.ext e1
      by_cases h14 : okP x.k x.l x.ks.length
      ·
        obtain rfl : r = .bool true := by rw [hr1, decide_eq_true h14]
        refine l_gy (wantY rfl rfl rfl) rfl rfl (x_not rfl) ?_
        refine l_rd rfl rfl (x_pick0 rfl (by conv => lhs; whnf)) ?_
        refine WL.nil ?_
        refine WC.cond0 rfl ?_
        refine WC.skip ?_
        exact PH.mk ⟨by simp only [List.length_append, List.length_cons, List.length_nil]; omega, fun p hp => by rcases List.mem_append.1 hp with h | h; exact hpo p h; obtain rfl := List.mem_singleton.1 h; exact h14⟩ (by rw [len_snocI]; exact Hd.arrT [_, _, _] [0, 1] (by decide) rfl H)
      ·
        obtain rfl : r = .bool false := by rw [hr1, decide_eq_false h14]
        have hno : ¬ rightT t := fun h => h14 (h.2 x (by rw [hxs]; simp))
        refine l_gy (wantY rfl rfl rfl) rfl rfl (x_not rfl) ?_
        refine l_rd rfl rfl (x_pick0 rfl (by conv => lhs; whnf)) ?_
        refine WL.nil ?_
        refine WC.cond1 rfl ?_
        refine WC.seq ?_
        refine WC.region ?_
        refine l_no (s_st 0 rfl ty4 rfl ev_c rfl rfl H fun w H => ?_)
        refine WL.nil ?_
        refine WC.ret ?_
        show Hd _ _ (_ :: _)
        exact PH.mk ⟨rfl, hno⟩ (Hd.arrT [_, _, _] [0] (by decide) rfl H)
  ·
    intro w m H
    obtain ⟨⟨hpl, hpo⟩, H⟩ := PH.opn H
    have H := Hd.unstarAt [_, _] H
    refine WC.seq ?_
    refine WC.region ?_
    refine l_no (s_st 0 rfl ty4 rfl ev_c rfl rfl H fun w H => ?_)
    refine WL.nil ?_
    refine WC.ret ?_
    refine atRet ?_
    refine RetM.mark H (i := 4) rfl (fun w H => ?_)
    exact RetM.cell1 rfl (by (conv => lhs; whnf); try rfl) Tryz.underlying4 rfl (H.cellL 0 rfl rfl) (⟨by rw [decide_eq_true (show rightT t from ⟨hpl, hpo⟩)], H.below 3 rfl⟩)
  ·
    intro w m c pre x rest hxs H
    obtain ⟨⟨hc, hno⟩, H2⟩ := PH.opn H
    clear H
    subst hc
    have H := Hd.unstarAt [_] H2
    clear H2
    refine WC.ret ?_
    refine atRet ?_
    refine RetM.mark H (i := 3) rfl (fun w H => ?_)
    exact RetM.cell1 rfl (by (conv => lhs; whnf); try rfl) Tryz.underlying4 rfl (H.cellL 0 rfl rfl) (⟨by rw [decide_eq_false hno], H.below 2 rfl⟩)
theorem cal110 : Cal Tryz.prog 110 := ⟨_, Tryz.func110, rfl, by decide⟩
theorem cal111 : Cal Tryz.prog 111 := ⟨_, Tryz.func111, rfl, by decide⟩
theorem cal166 : Cal Tryz.prog 166 := ⟨_, Tryz.func166, rfl, by decide⟩
theorem cal167 : Cal Tryz.prog 167 := ⟨_, Tryz.func167, rfl, by decide⟩
theorem cal216 : Cal Tryz.prog 216 := ⟨_, Tryz.func216, rfl, by decide⟩
theorem EtR.old {w w' : World} : ∀ {t : Et}, Old w w' → EtR w t → EtR w' t
  | .mk k l v ks, o, h => by
    unfold EtR at h ⊢
    exact ⟨o.rdS h.1, fun t ht => EtR.old o (h.2 t ht)⟩
 mutual
def emptyT : Et → Bool
  | .mk k _ _ ks => if k = 4 ∨ k = 6 then true else if k = 3 then anyE ks else if k = 2 ∨ k = 5 then allE ks else false
def anyE : List Et → Bool
  | [] => false
  | t :: r => emptyT t || anyE r
def allE : List Et → Bool
  | [] => true
  | t :: r => emptyT t && allE r
end
theorem anyE_eq : ∀ l : List Et, anyE l = l.any emptyT
  | [] => rfl
  | t :: r => by rw [anyE, List.any_cons, anyE_eq r]
theorem allE_eq : ∀ l : List Et, allE l = !(l.any fun x => !emptyT x)
  | [] => rfl
  | t :: r => by rw [allE, List.any_cons, allE_eq r]; cases emptyT t <;> simp
theorem emptyT_eq (t : Et) : emptyT t = if t.k = 4 ∨ t.k = 6 then true else if t.k = 3 then t.ks.any emptyT else if t.k = 2 ∨ t.k = 5 then !(t.ks.any fun x => !emptyT x) else false := by
  cases t; rw [emptyT, anyE_eq, allE_eq]; rfl
theorem c216 {v : Value} {xs : List Et} {p : Et → Bool} {fid : Nat} (w : World) (hx : RdS w v 3 etC xs) (hc : Cal Tryz.prog fid) (hp : ∀ x ∈ xs, ∀ w1, Ext w w1 → CC Tryz.prog fid [.agg (etC x).toArray].toArray w1 (fun r w' => r = .bool (p x) ∧ Ext w1 w')) : CC Tryz.prog 216 [v, .func (.func fid) #[] #[]].toArray w (fun r w' => ∃ j : Int, r = I j ∧ (0 ≤ j ↔ xs.any p = true) ∧ Ext w w') := by
  obtain ⟨w0, e0⟩ : ∃ w0, w0 = w := ⟨w, rfl⟩
  subst e0
  have H := Hd.start w0
  obtain ⟨a, c, rfl⟩ := hx.shape
  have hle := hx.le
  refine CC.of (N := 19) Tryz.func216 rfl rfl rfl ?_
  refine WC.seq ?_
  refine WC.region ?_
  refine l_rd rfl rfl (x_assign ev_c) ?_
  refine WL.nil ?_
  refine WC.seq ?_
  refine WC.seq ?_
  refine WC.region ?_
  refine l_rd rfl rfl (x_move (by conv => lhs; whnf)) ?_
  refine l_rd rfl rfl (x_lenSlice Tryz.underlying23 rfl rfl) ?_
  refine l_rd rfl rfl (x_move ev_c) ?_
  refine WL.nil ?_
  refine WC.block ?_
  refine WC.loop (fun ρ ds w => ∃ k : Nat, k ≤ xs.length ∧ (∀ j x, j < k → xs[j]? = some x → p x = false) ∧ ρ 8 = I k ∧ ρ 7 = I xs.length ∧ ρ 0 = .slice a xs.length c ∧ ρ 1 = .func (.func fid) #[] #[] ∧ ds = [] ∧ Hd (sy w0) w [fr w0]) (fun ρ w => xs.length - (match ρ 8 with | .int _ k => k.toNat | _ => 0)) (⟨0, Nat.zero_le _, fun j x h => absurd h (by omega), rfl, rfl, rfl, rfl, rfl, H⟩) ?_
  repeat clear H
  rintro ρ ds w ⟨k, hk, hno, h8, h7, h0, h1, rfl, H⟩
  refine WC.seq ?_
  refine WC.region ?_
  refine l_rdD rfl rfl (x_lss h8 h7) (fun h9 => ?_) (fun h9 => ?_)
  ·
    refine WL.nil ?_
    refine WC.seq ?_
    refine WC.cond1 rfl ?_
    refine WC.skip ?_
    refine WC.seq ?_
    refine WC.block ?_
    refine WC.seq ?_
    refine WC.region ?_
    refine l_rd rfl rfl (x_move h8) ?_
    refine l_rd rfl rfl (x_assign (by conv => lhs; whnf)) ?_
    refine WL.nil ?_
    refine WC.seq ?_
    obtain ⟨x, hxk⟩ := lt_get (show k < xs.length by omega)
    obtain ⟨b1, o1, rfl, hc1⟩ := hx.el etC_len hxk
    refine WC.region ?_
    refine l_rd rfl rfl (x_move h1) ?_
    refine l_rd rfl rfl (x_move h0) ?_
    refine l_rd rfl rfl (x_move (by conv => lhs; whnf)) ?_
    refine l_rd rfl rfl (x_indexAddr Tryz.underlying23 ty25 rfl rfl (by omega) (by omega)) ?_
    refine l_rd rfl rfl (x_loadF (vs := [_, _, _]) Tryz.underlying25 rfl ty25 rfl rfl (sub_row 0 (fun j u hj => (H.old 0 rfl).cell (hc1 j u hj)) rfl)) ?_
    refine l_st rfl (s_callvL (caps := []) rfl hc (hp x (List.mem_of_getElem? hxk) _ (H.below 0 rfl)) ?_)
    rintro r w ⟨hr1, e1⟩
    have H := H.ext e1
    cases hpx : p x
    ·
      rw [hpx] at hr1
      subst hr1
      refine WL.nil ?_
      refine WC.cond0 rfl ?_
      refine WC.skip ?_
      refine WC.region ?_
      refine l_rd rfl rfl (x_add h8 rfl (by omega) (by omega)) ?_
      refine l_rd rfl rfl (x_move (by conv => lhs; whnf)) ?_
      refine WL.nil ?_
      refine WC.again (⟨k + 1, by omega, fun j y hj hy => by rcases Nat.lt_succ_iff_lt_or_eq.1 hj with h | rfl; exact hno j y h hy; rw [hxk] at hy; cases hy; exact hpx, rfl, h7, h0, h1, rfl, H⟩) (by show _ - _ < _ - _; rw [h8]; show xs.length - ((k : Int) + 1).toNat < xs.length - (k : Int).toNat; omega)
    ·
      rw [hpx] at hr1
      subst hr1
      refine WL.nil ?_
      refine WC.cond1 rfl ?_
      refine WC.seq ?_
      refine WC.region ?_
      refine l_rd rfl rfl (x_move (by conv => lhs; whnf)) ?_
      refine l_rd rfl rfl (x_assign (by conv => lhs; whnf)) ?_
      refine WL.nil ?_
      refine WC.ret ?_
      refine atRet ?_
      exact RetM.one rfl (by (conv => lhs; whnf); try rfl) (⟨_, rfl, ⟨fun _ => List.any_eq_true.2 ⟨x, List.mem_of_getElem? hxk, hpx⟩, fun _ => by omega⟩, H.below 0 rfl⟩)
  ·
    refine WL.nil ?_
    refine WC.seq ?_
    refine WC.cond0 rfl ?_
    refine WC.exit ?_
    refine WC.seq ?_
    refine WC.region ?_
    refine l_rd rfl rfl (x_assign ev_c) ?_
    refine WL.nil ?_
    refine WC.ret ?_
    refine atRet ?_
    exact RetM.one rfl (by (conv => lhs; whnf); try rfl) (⟨_, rfl, ⟨fun h => absurd h (by decide), fun h => by obtain ⟨x, hx1, hx2⟩ := List.any_eq_true.1 h; obtain ⟨j, hj, e⟩ := List.mem_iff_getElem.1 hx1; rw [hno j x (by omega) (by rw [List.getElem?_eq_getElem hj, e])] at hx2; cases hx2⟩, H.below 0 rfl⟩)
theorem c166 {v : Value} {xs : List Et} {p : Et → Bool} {fid : Nat} (w : World) (hx : RdS w v 3 etC xs) (hc : Cal Tryz.prog fid) (hp : ∀ x ∈ xs, ∀ w1, Ext w w1 → CC Tryz.prog fid [.agg (etC x).toArray].toArray w1 (fun r w' => r = .bool (p x) ∧ Ext w1 w')) : CC Tryz.prog 166 [v, .func (.func fid) #[] #[]].toArray w (fun r w' => r = .bool (xs.any p) ∧ Ext w w') := by
  obtain ⟨w0, e0⟩ : ∃ w0, w0 = w := ⟨w, rfl⟩
  subst e0
  have H := Hd.start w0
  refine CC.of (N := 9) Tryz.func166 rfl rfl rfl ?_
  refine WC.seq ?_
  refine WC.region ?_
  refine l_rd rfl rfl (x_assign ev_c) ?_
  refine WL.nil ?_
  refine WC.seq ?_
  refine WC.region ?_
  refine l_rd rfl rfl (x_move (by conv => lhs; whnf)) ?_
  refine l_rd rfl rfl (x_move (by conv => lhs; whnf)) ?_
  refine l_st rfl (s_callL cal216 (c216 (fid := fid) (p := p) _ hx hc hp) ?_)
  rintro _ w ⟨j, rfl, hj, e1⟩
  have H := H.ext e1
  refine l_rdD rfl rfl (x_geq rfl rfl) (fun h8 => ?_) (fun h8 => ?_)
  ·
    refine l_rd rfl rfl (x_assign (by conv => lhs; whnf)) ?_
    refine WL.nil ?_
    refine WC.ret ?_
    refine atRet ?_
    exact RetM.one rfl (by (conv => lhs; whnf); try rfl) (⟨by rw [hj.1 h8], H.below 0 rfl⟩)
  ·
    refine l_rd rfl rfl (x_assign (by conv => lhs; whnf)) ?_
    refine WL.nil ?_
    refine WC.ret ?_
    refine atRet ?_
    exact RetM.one rfl (by (conv => lhs; whnf); try rfl) (⟨by rw [Bool.eq_false_iff.2 (fun h => h8 (hj.2 h))], H.below 0 rfl⟩)
theorem c167 {t : Et} (ih : ∀ (w : World), EtR w t → CC Tryz.prog 111 [.agg (etC t).toArray].toArray w (fun r w' => r = .bool (emptyT t) ∧ Ext w w')) (w : World) (ht : EtR w t) : CC Tryz.prog 167 [.agg (etC t).toArray].toArray w (fun r w' => r = .bool (!emptyT t) ∧ Ext w w') := by
  obtain ⟨w0, e0⟩ : ∃ w0, w0 = w := ⟨w, rfl⟩
  subst e0
  have H := Hd.start w0
  refine CC.of (N := 6) Tryz.func167 rfl rfl rfl ?_
  refine WC.seq ?_
  refine WC.region ?_
  refine l_st rfl (s_box (by conv => lhs; whnf) H fun b1 w H => ?_)
  refine l_rd rfl rfl (x_assign ev_c) ?_
  refine WL.nil ?_
  refine WC.seq ?_
  refine WC.region ?_
  refine l_rd rfl rfl (x_loadF (vs := [_, _, _]) Tryz.underlying25 rfl ty25 rfl rfl (H.cellsL 0 rfl rfl)) ?_
  refine l_st rfl (s_callL cal111 (ih _ (ht.old (H.old 1 rfl))) ?_)
  rintro _ w ⟨rfl, e1⟩
  have H := H.ext e1
  refine l_rd rfl rfl (x_not rfl) ?_
  refine l_rd rfl rfl (x_assign (by conv => lhs; whnf)) ?_
  refine WL.nil ?_
  refine WC.ret ?_
  refine atRet ?_
  exact RetM.one rfl (by (conv => lhs; whnf); try rfl) (⟨rfl, H.below 1 rfl⟩)
theorem c111 : ∀ (N : Nat) {t : Et} (hN : SizeOf.sizeOf t < N) (w : World) (ht : EtR w t), CC Tryz.prog 111 [.agg (etC t).toArray].toArray w (fun r w' => r = .bool (emptyT t) ∧ Ext w w') := by
  intro N
  induction N
  · intro t hN; exact absurd hN (by omega)
  rename_i N ih
  intro t hN w ht
  obtain ⟨w0, e0⟩ : ∃ w0, w0 = w := ⟨w, rfl⟩
  subst e0
  have H := Hd.start w0
  have hr : RdS w0 t.v 3 etC t.ks := ht.rd
  obtain ⟨a, c, hv⟩ := hr.shape
  have ih : ∀ (x : Et), SizeOf.sizeOf x < N → ∀ (w : World), EtR w x → CC Tryz.prog 111 [.agg (etC x).toArray].toArray w (fun r w' => r = .bool (emptyT x) ∧ Ext w w') := fun x hx => ih hx
  refine CC.of (N := 20) Tryz.func111 rfl rfl rfl ?_
  refine WC.seq ?_
  refine WC.region ?_
  refine l_st rfl (s_box (by conv => lhs; whnf) H fun b1 w H => ?_)
  refine l_rd rfl rfl (x_assign ev_c) ?_
  refine WL.nil ?_
  refine WC.seq ?_
  refine WC.seq ?_
  refine WC.region ?_
  refine l_rd rfl rfl (x_fieldAddr (k := 0) Tryz.underlying25 rfl rfl ty22 (by decide) rfl) ?_
  refine l_rd rfl rfl (x_load Tryz.underlying22 rfl rfl (H.cellL 0 rfl rfl)) ?_
  refine WL.nil ?_
  refine WC.block ?_
  refine WC.seq ?_
  refine WC.seq ?_
  refine WC.region ?_
  refine l_rdD rfl rfl (x_eql rfl rfl) (fun h6 => ?_) (fun h6 => ?_)
  ·
    refine l_rd rfl rfl (x_assign (by conv => lhs; whnf)) ?_
    refine WL.nil ?_
    refine WC.cond1 rfl ?_
    refine WC.skip ?_
    refine WC.cond1 rfl ?_
    refine WC.seq ?_
    refine WC.region ?_
    refine l_rd rfl rfl (x_assign ev_c) ?_
    refine WL.nil ?_
    refine WC.ret ?_
    refine atRet ?_
    exact RetM.one rfl (by (conv => lhs; whnf); try rfl) ⟨by rw [emptyT_eq]; simp [*], H.below 1 rfl⟩
  ·
    refine l_rd rfl rfl (x_assign (by conv => lhs; whnf)) ?_
    refine WL.nil ?_
    refine WC.cond0 rfl ?_
    refine WC.region ?_
    refine l_rdD rfl rfl (x_eql rfl rfl) (fun h7 => ?_) (fun h7 => ?_)
    ·
      refine l_rd rfl rfl (x_assign (by conv => lhs; whnf)) ?_
      refine WL.nil ?_
      refine WC.cond1 rfl ?_
      refine WC.seq ?_
      refine WC.region ?_
      refine l_rd rfl rfl (x_assign ev_c) ?_
      refine WL.nil ?_
      refine WC.ret ?_
      refine atRet ?_
      exact RetM.one rfl (by (conv => lhs; whnf); try rfl) ⟨by rw [emptyT_eq]; simp [*], H.below 1 rfl⟩
    ·
      refine l_rd rfl rfl (x_assign (by conv => lhs; whnf)) ?_
      refine WL.nil ?_
      refine WC.cond0 rfl ?_
      refine WC.seq ?_
      refine WC.region ?_
      refine l_rdD rfl rfl (x_eql rfl rfl) (fun h9 => ?_) (fun h9 => ?_)
      ·
        refine l_rd rfl rfl (x_assign (by conv => lhs; whnf)) ?_
        refine WL.nil ?_
        refine WC.cond1 rfl ?_
        refine WC.seq ?_
        refine WC.region ?_
        refine l_rd rfl rfl (x_fieldAddr (k := 2) Tryz.underlying25 rfl rfl ty23 (by decide) rfl) ?_
        refine l_rd rfl rfl (x_load Tryz.underlying23 rfl rfl (H.cellL 0 rfl rfl)) ?_
        refine l_st rfl (s_callL cal166 (c166 (p := emptyT) (fid := 111) _ ((H.old 1 rfl).rdS hr) cal111 (fun x hx w1 e2 => ih _ (by have := et_lt hx; omega) _ (EtR.old (e2.old) ((ht.kid hx).old (H.old 1 rfl))))) ?_)
        rintro _ w ⟨rfl, e1⟩
        have H := H.ext e1
        refine l_rd rfl rfl (x_assign (by conv => lhs; whnf)) ?_
        refine WL.nil ?_
        refine WC.ret ?_
        refine atRet ?_
        exact RetM.one rfl (by (conv => lhs; whnf); try rfl) ⟨by rw [emptyT_eq]; simp [*], H.below 1 rfl⟩
      ·
        refine l_rd rfl rfl (x_assign (by conv => lhs; whnf)) ?_
        refine WL.nil ?_
        refine WC.cond0 rfl ?_
        refine WC.seq ?_
        refine WC.seq ?_
        refine WC.region ?_
        refine l_rdD rfl rfl (x_eql rfl rfl) (fun h14 => ?_) (fun h14 => ?_)
        ·
          refine l_rd rfl rfl (x_assign (by conv => lhs; whnf)) ?_
          refine WL.nil ?_
          refine WC.cond1 rfl ?_
          refine WC.skip ?_
          refine WC.cond1 rfl ?_
          refine WC.seq ?_
          refine WC.region ?_
          refine l_rd rfl rfl (x_fieldAddr (k := 2) Tryz.underlying25 rfl rfl ty23 (by decide) rfl) ?_
          refine l_rd rfl rfl (x_load Tryz.underlying23 rfl rfl (H.cellL 0 rfl rfl)) ?_
          refine l_st rfl (s_callL cal166 (c166 (p := fun x => !emptyT x) (fid := 167) _ ((H.old 1 rfl).rdS hr) cal167 (fun x hx w1 e2 => c167 (fun w hw => ih _ (by have := et_lt hx; omega) w hw) _ (EtR.old (e2.old) ((ht.kid hx).old (H.old 1 rfl))))) ?_)
          rintro _ w ⟨rfl, e1⟩
          have H := H.ext e1
          refine l_rd rfl rfl (x_not rfl) ?_
          refine l_rd rfl rfl (x_assign (by conv => lhs; whnf)) ?_
          refine WL.nil ?_
          refine WC.ret ?_
          refine atRet ?_
          exact RetM.one rfl (by (conv => lhs; whnf); try rfl) ⟨by rw [emptyT_eq]; simp [*], H.below 1 rfl⟩
        ·
          refine l_rd rfl rfl (x_assign (by conv => lhs; whnf)) ?_
          refine WL.nil ?_
          refine WC.cond0 rfl ?_
          refine WC.region ?_
          refine l_rdD rfl rfl (x_eql rfl rfl) (fun h15 => ?_) (fun h15 => ?_)
          ·
            refine l_rd rfl rfl (x_assign (by conv => lhs; whnf)) ?_
            refine WL.nil ?_
            refine WC.cond1 rfl ?_
            refine WC.seq ?_
            refine WC.region ?_
            refine l_rd rfl rfl (x_fieldAddr (k := 2) Tryz.underlying25 rfl rfl ty23 (by decide) rfl) ?_
            refine l_rd rfl rfl (x_load Tryz.underlying23 rfl rfl (H.cellL 0 rfl rfl)) ?_
            refine l_st rfl (s_callL cal166 (c166 (p := fun x => !emptyT x) (fid := 167) _ ((H.old 1 rfl).rdS hr) cal167 (fun x hx w1 e2 => c167 (fun w hw => ih _ (by have := et_lt hx; omega) w hw) _ (EtR.old (e2.old) ((ht.kid hx).old (H.old 1 rfl))))) ?_)
            rintro _ w ⟨rfl, e1⟩
            have H := H.ext e1
            refine l_rd rfl rfl (x_not rfl) ?_
            refine l_rd rfl rfl (x_assign (by conv => lhs; whnf)) ?_
            refine WL.nil ?_
            refine WC.ret ?_
            refine atRet ?_
            exact RetM.one rfl (by (conv => lhs; whnf); try rfl) ⟨by rw [emptyT_eq]; simp [*], H.below 1 rfl⟩
          ·
            refine l_rd rfl rfl (x_assign (by conv => lhs; whnf)) ?_
            refine WL.nil ?_
            refine WC.cond0 rfl ?_
            refine WC.skip ?_
            refine WC.seq ?_
            refine WC.region ?_
            refine l_rd rfl rfl (x_assign ev_c) ?_
            refine WL.nil ?_
            refine WC.ret ?_
            refine atRet ?_
            exact RetM.one rfl (by (conv => lhs; whnf); try rfl) ⟨by rw [emptyT_eq]; simp [*], H.below 1 rfl⟩
theorem c61 {t : Et} (w : World) (ht : EtR w t) : CC Tryz.prog 61 [.agg (etC t).toArray].toArray w (fun r w' => r = .bool (decide (rightT t) && emptyT t) ∧ Ext w w') := by
  obtain ⟨w0, e0⟩ : ∃ w0, w0 = w := ⟨w, rfl⟩
  subst e0
  have H := Hd.start w0
  refine CC.of (N := 9) Tryz.func61 rfl rfl rfl ?_
  refine WC.seq ?_
  refine WC.region ?_
  refine l_st rfl (s_box (by conv => lhs; whnf) H fun b1 w H => ?_)
  refine l_rd rfl rfl (x_assign ev_c) ?_
  refine WL.nil ?_
  refine WC.seq ?_
  refine WC.region ?_
  refine l_rd rfl rfl (x_loadF (vs := [_, _, _]) Tryz.underlying25 rfl ty25 rfl rfl (H.cellsL 0 rfl rfl)) ?_
  refine l_st rfl (s_callL cal110 (c110 _ (ht.old (H.old 1 rfl))) ?_)
  rintro r w ⟨hr1, e1⟩
  have H := H.ext e1
  by_cases h4 : rightT t
  ·
    obtain rfl : r = .bool true := by rw [hr1, decide_eq_true h4]
    refine l_rd rfl rfl (x_move (by conv => lhs; whnf)) ?_
    refine l_gy (wantY rfl rfl rfl) rfl rfl (x_loadF (vs := [_, _, _]) Tryz.underlying25 rfl ty25 rfl rfl (H.cellsL 0 rfl rfl)) ?_
    refine l_gst (wantY rfl rfl rfl) rfl (s_callL cal111 (c111 _ (Nat.lt_succ_self _) _ (ht.old (H.old 1 rfl))) ?_)
    rintro _ w ⟨rfl, e1⟩
    have H := H.ext e1
    refine l_rd rfl rfl (x_pick1 rfl (by conv => lhs; whnf)) ?_
    refine l_rd rfl rfl (x_assign (by conv => lhs; whnf)) ?_
    refine WL.nil ?_
    refine WC.ret ?_
    refine atRet ?_
    exact RetM.one rfl (by (conv => lhs; whnf); try rfl) (⟨by rw [decide_eq_true h4]; rfl, H.below 1 rfl⟩)
  ·
    obtain rfl : r = .bool false := by rw [hr1, decide_eq_false h4]
    refine l_rd rfl rfl (x_move (by conv => lhs; whnf)) ?_
    refine l_gn (wantN rfl rfl rfl) rfl ?_
    refine l_gn (wantN rfl rfl rfl) rfl ?_
    refine l_rd rfl rfl (x_pick0 rfl ev_c) ?_
    refine l_rd rfl rfl (x_assign (by conv => lhs; whnf)) ?_
    refine WL.nil ?_
    refine WC.ret ?_
    refine atRet ?_
    exact RetM.one rfl (by (conv => lhs; whnf); try rfl) (⟨by rw [decide_eq_false h4]; rfl, H.below 1 rfl⟩)
end Go.Proofs.YteibnmkikdbndaaGreatDoor
namespace Go.Proofs
open Go.Shelf
def Tryz.lays169_ren : Go.Shelf.Ren := ⟨fun | 169 => 185 | n => n, fun | 70 => 287 | 9 => 9 | 0 => 0 | 72 => 290 | 37 => 288 | 127 => 335 | 3 => 3 | 5 => 5 | n => n, fun | n => n⟩
theorem Tryz.lays169 : Go.Proofs.Lays.n169 Tryz.prog Tryz.lays169_ren := {
  mixed := by kernel_rfl
  f169 := Tryz.func185.trans (congrArg some (by kernel_rfl))
  t0 := Tryz.underlying0
  a0 := Tryz.isAgg0
  z0 := Tryz.sizeOf0
  v0 := Tryz.zeroValue0
  t3 := Tryz.underlying3
  a3 := Tryz.isAgg3
  z3 := Tryz.sizeOf3
  v3 := Tryz.zeroValue3
  t9 := Tryz.underlying9
  a9 := Tryz.isAgg9
  z9 := Tryz.sizeOf9
  v9 := Tryz.zeroValue9
  t37 := Tryz.underlying288
  a37 := Tryz.isAgg288
  z37 := Tryz.sizeOf288
  v37 := Tryz.zeroValue288
  t70 := Tryz.underlying287
  a70 := Tryz.isAgg287
  z70 := Tryz.sizeOf287
  v70 := Tryz.zeroValue287
  t72 := Tryz.underlying290
  a72 := Tryz.isAgg290
  z72 := Tryz.sizeOf290
  v72 := Tryz.zeroValue290
  t127 := Tryz.underlying335
  a127 := Tryz.isAgg335
  z127 := Tryz.sizeOf335
  v127 := Tryz.zeroValue335 }
theorem Tryz.Builder_Extra_169 : Builder.Extra Tryz.prog Tryz.lays169_ren := {
  sizeBuilder := by kernel_rfl
  liesBuilder := by kernel_rfl
  t5 := Tryz.underlying5
  a5 := Tryz.isAgg5
  z5 := Tryz.sizeOf5
  v5 := Tryz.zeroValue5
  infoByte := by kernel_rfl
  cellsByte := by kernel_rfl
  sizeByte := by kernel_rfl
  neB5 := by decide }
open Go.RowKit in
/-- (*strings.Builder).String: "String returns the accumulated string.": OF A BUILDER THAT HOLDS AT LEAST ONE BYTE. ✋ THE MODEL FREEZES THOSE BYTES IN THE BUFFER (unsafe.String): a later write INTO them ends the model's run without an answer; a later append BEHIND them goes on. The statement's order of evaluation is drawn: one draw. (LAID: no walk: one application.) -/
theorem Tryz.Builder_String (B b : Nat) (l : List UInt8) (w : World) (h : Lib.IsBuilder 290 5 B b (Lib.byteCells l) w) (h0 : l ≠ []) :
    Calls Tryz.prog 185 #[.pointer (some ⟨b, 0, none⟩)] w fun e w' => e = .returned (.string ⟨l.toArray⟩) ∧ Below B w w' := Any.Builder_String Tryz.lays169 Tryz.Builder_Extra_169 B b l w h h0
open Go.RowKit in
/-- (*strings.Builder).String OF A BUILDER THAT HOLDS NO BYTE: the empty string. (Its buffer is nil, or a row of which it has taken nothing yet; where that row has NO capacity the model lays one new block for unsafe.SliceData's 'some address'.) One draw. (LAID: no walk: one application.) -/
theorem Tryz.Builder_String_empty (B b : Nat) (w : World) (h : Lib.IsBuilder 290 5 B b [] w) (hBw : B ≤ w.heap.size) :
    Calls Tryz.prog 185 #[.pointer (some ⟨b, 0, none⟩)] w fun e w' => e = .returned (.string ⟨#[]⟩) ∧ Below B w w' := Any.Builder_String_empty Tryz.lays169 Tryz.Builder_Extra_169 B b w h hBw
open Go.RowKit in
/-- (*strings.Builder).String: "String returns the accumulated string.": WHATEVER THE BUILDER HOLDS. (LAID: no walk: one application.) -/
theorem Tryz.Builder_String_any (B b : Nat) (l : List UInt8) (w : World) (h : Lib.IsBuilder 290 5 B b (Lib.byteCells l) w) (hBw : B ≤ w.heap.size) :
    Calls Tryz.prog 185 #[.pointer (some ⟨b, 0, none⟩)] w fun e w' => e = .returned (.string ⟨l.toArray⟩) ∧ Below B w w' := Any.Builder_String_any Tryz.lays169 Tryz.Builder_Extra_169 B b l w h hBw
def Tryz.laysM171_ren : Go.Shelf.Ren := ⟨fun | 171 => 184 | 243 => 232 | 246 => 259 | 283 => 267 | 284 => 268 | 285 => 269 | 286 => 270 | 129 => 209 | 317 => 276 | 318 => 277 | 319 => 278 | 320 => 279 | 337 => 254 | 338 => 280 | n => n, fun | 3 => 3 | 9 => 9 | 2 => 2 | 4 => 4 | 171 => 365 | 0 => 0 | 53 => 314 | 37 => 288 | 5 => 5 | 173 => 367 | 212 => 373 | 51 => 220 | 20 => 20 | 213 => 374 | 46 => 263 | 232 => 363 | 233 => 375 | n => n, fun | 17 => 1 | 18 => 0 | 19 => 2 | n => n⟩
theorem Tryz.laysM171 : Go.Proofs.LaysM.n171 Tryz.prog Tryz.laysM171_ren := {
  mixed := by kernel_rfl
  f129 := Tryz.func209.trans (congrArg some (by kernel_rfl))
  f171 := Tryz.func184.trans (congrArg some (by kernel_rfl))
  f243 := Tryz.func232.trans (congrArg some (by kernel_rfl))
  f246 := Tryz.func259.trans (congrArg some (by kernel_rfl))
  f283 := Tryz.func267.trans (congrArg some (by kernel_rfl))
  f284 := Tryz.func268.trans (congrArg some (by kernel_rfl))
  f285 := Tryz.func269.trans (congrArg some (by kernel_rfl))
  f286 := Tryz.func270.trans (congrArg some (by kernel_rfl))
  f317 := Tryz.func276.trans (congrArg some (by kernel_rfl))
  f318 := Tryz.func277.trans (congrArg some (by kernel_rfl))
  f319 := Tryz.func278.trans (congrArg some (by kernel_rfl))
  f320 := Tryz.func279.trans (congrArg some (by kernel_rfl))
  f337 := Tryz.func254.trans (congrArg some (by kernel_rfl))
  f338 := Tryz.func280.trans (congrArg some (by kernel_rfl))
  t0 := Tryz.underlying0
  a0 := Tryz.isAgg0
  z0 := Tryz.sizeOf0
  v0 := Tryz.zeroValue0
  t2 := Tryz.underlying2
  a2 := Tryz.isAgg2
  z2 := Tryz.sizeOf2
  v2 := Tryz.zeroValue2
  t3 := Tryz.underlying3
  a3 := Tryz.isAgg3
  z3 := Tryz.sizeOf3
  v3 := Tryz.zeroValue3
  t4 := Tryz.underlying4
  a4 := Tryz.isAgg4
  z4 := Tryz.sizeOf4
  v4 := Tryz.zeroValue4
  t5 := Tryz.underlying5
  a5 := Tryz.isAgg5
  z5 := Tryz.sizeOf5
  v5 := Tryz.zeroValue5
  t9 := Tryz.underlying9
  a9 := Tryz.isAgg9
  z9 := Tryz.sizeOf9
  v9 := Tryz.zeroValue9
  t20 := Tryz.underlying20
  a20 := Tryz.isAgg20
  z20 := Tryz.sizeOf20
  v20 := Tryz.zeroValue20
  t37 := Tryz.underlying288
  a37 := Tryz.isAgg288
  z37 := Tryz.sizeOf288
  v37 := Tryz.zeroValue288
  t46 := Tryz.underlying263
  a46 := Tryz.isAgg263
  z46 := Tryz.sizeOf263
  v46 := Tryz.zeroValue263
  t51 := Tryz.underlying220
  a51 := Tryz.isAgg220
  z51 := Tryz.sizeOf220
  v51 := Tryz.zeroValue220
  t53 := Tryz.underlying314
  a53 := Tryz.isAgg314
  z53 := Tryz.sizeOf314
  v53 := Tryz.zeroValue314
  t171 := Tryz.underlying365
  a171 := Tryz.isAgg365
  z171 := Tryz.sizeOf365
  v171 := Tryz.zeroValue365
  t173 := Tryz.underlying367
  a173 := Tryz.isAgg367
  z173 := Tryz.sizeOf367
  v173 := Tryz.zeroValue367
  t212 := Tryz.underlying373
  a212 := Tryz.isAgg373
  z212 := Tryz.sizeOf373
  v212 := Tryz.zeroValue373
  t213 := Tryz.underlying374
  a213 := Tryz.isAgg374
  z213 := Tryz.sizeOf374
  t232 := Tryz.underlying363
  a232 := Tryz.isAgg363
  z232 := Tryz.sizeOf363
  v232 := Tryz.zeroValue363
  t233 := Tryz.underlying375
  a233 := Tryz.isAgg375
  z233 := Tryz.sizeOf375
  v233 := Tryz.zeroValue375
  g17 := by kernel_rfl
  g18 := by kernel_rfl
  g19 := by kernel_rfl
  i0 := by kernel_rfl
  i2 := by kernel_rfl
  i3 := by kernel_rfl
  i4 := by kernel_rfl
  i5 := by kernel_rfl
  i9 := by kernel_rfl
  i20 := by kernel_rfl
  i37 := by kernel_rfl
  i46 := by kernel_rfl
  i51 := by kernel_rfl
  i53 := by kernel_rfl
  i171 := by kernel_rfl
  i173 := by kernel_rfl
  i212 := by kernel_rfl
  i232 := by kernel_rfl
  i233 := by kernel_rfl
  m17 := by kernel_rfl
  m18 := by kernel_rfl
  m19 := by kernel_rfl }
open Go.RowKit Go.Sort Go.Lib in
/-- strconv.Itoa: "Itoa is equivalent to FormatInt(int64(i), 10).": i's DECIMAL NUMERAL ('Lib.itoa': a '-' where i is negative, then the digits), FOR EVERY int. The world behind the call: the world before it, new blocks behind the heap (the library's 'var a [24]byte'), draws. (LAID: no walk: one application.) -/
theorem Tryz.strconv_Itoa (n : Int) (h0 : -9223372036854775808 ≤ n) (h1 : n ≤ 9223372036854775807) (w : World) (htab : Lib.TabIs Tryz.prog w "internal/strconv.uint64pow10" .u64 Lib.pow10Tab) :
    Calls Tryz.prog 184 #[.int .i64 n] w fun e w' => e = .returned (.string ⟨(Lib.itoa n).toArray⟩) ∧ ∃ k os, w' = grow (w.drewN k) os := Any.strconv_Itoa Tryz.laysM171 n h0 h1 w htab
def Tryz.lays171_ren : Go.Shelf.Ren := ⟨fun | 171 => 184 | 243 => 232 | 246 => 259 | 283 => 267 | 284 => 268 | 285 => 269 | 286 => 270 | 129 => 209 | 317 => 276 | 318 => 277 | 319 => 278 | 320 => 279 | 337 => 254 | 338 => 280 | n => n, fun | 3 => 3 | 9 => 9 | 2 => 2 | 4 => 4 | 171 => 365 | 0 => 0 | 53 => 314 | 37 => 288 | 5 => 5 | 173 => 367 | 212 => 373 | 51 => 220 | 20 => 20 | 213 => 374 | 46 => 263 | 232 => 363 | 233 => 375 | n => n, fun | 17 => 1 | 18 => 0 | 19 => 2 | n => n⟩
theorem Tryz.lays171 : Go.Proofs.Lays.n171 Tryz.prog Tryz.lays171_ren := {
  mixed := by kernel_rfl
  f129 := Tryz.func209.trans (congrArg some (by kernel_rfl))
  f171 := Tryz.func184.trans (congrArg some (by kernel_rfl))
  f243 := Tryz.func232.trans (congrArg some (by kernel_rfl))
  f246 := Tryz.func259.trans (congrArg some (by kernel_rfl))
  f283 := Tryz.func267.trans (congrArg some (by kernel_rfl))
  f284 := Tryz.func268.trans (congrArg some (by kernel_rfl))
  f285 := Tryz.func269.trans (congrArg some (by kernel_rfl))
  f286 := Tryz.func270.trans (congrArg some (by kernel_rfl))
  f317 := Tryz.func276.trans (congrArg some (by kernel_rfl))
  f318 := Tryz.func277.trans (congrArg some (by kernel_rfl))
  f319 := Tryz.func278.trans (congrArg some (by kernel_rfl))
  f320 := Tryz.func279.trans (congrArg some (by kernel_rfl))
  f337 := Tryz.func254.trans (congrArg some (by kernel_rfl))
  f338 := Tryz.func280.trans (congrArg some (by kernel_rfl))
  t0 := Tryz.underlying0
  a0 := Tryz.isAgg0
  z0 := Tryz.sizeOf0
  v0 := Tryz.zeroValue0
  t2 := Tryz.underlying2
  a2 := Tryz.isAgg2
  z2 := Tryz.sizeOf2
  v2 := Tryz.zeroValue2
  t3 := Tryz.underlying3
  a3 := Tryz.isAgg3
  z3 := Tryz.sizeOf3
  v3 := Tryz.zeroValue3
  t4 := Tryz.underlying4
  a4 := Tryz.isAgg4
  z4 := Tryz.sizeOf4
  v4 := Tryz.zeroValue4
  t5 := Tryz.underlying5
  a5 := Tryz.isAgg5
  z5 := Tryz.sizeOf5
  v5 := Tryz.zeroValue5
  t9 := Tryz.underlying9
  a9 := Tryz.isAgg9
  z9 := Tryz.sizeOf9
  v9 := Tryz.zeroValue9
  t20 := Tryz.underlying20
  a20 := Tryz.isAgg20
  z20 := Tryz.sizeOf20
  v20 := Tryz.zeroValue20
  t37 := Tryz.underlying288
  a37 := Tryz.isAgg288
  z37 := Tryz.sizeOf288
  v37 := Tryz.zeroValue288
  t46 := Tryz.underlying263
  a46 := Tryz.isAgg263
  z46 := Tryz.sizeOf263
  v46 := Tryz.zeroValue263
  t51 := Tryz.underlying220
  a51 := Tryz.isAgg220
  z51 := Tryz.sizeOf220
  v51 := Tryz.zeroValue220
  t53 := Tryz.underlying314
  a53 := Tryz.isAgg314
  z53 := Tryz.sizeOf314
  v53 := Tryz.zeroValue314
  t171 := Tryz.underlying365
  a171 := Tryz.isAgg365
  z171 := Tryz.sizeOf365
  v171 := Tryz.zeroValue365
  t173 := Tryz.underlying367
  a173 := Tryz.isAgg367
  z173 := Tryz.sizeOf367
  v173 := Tryz.zeroValue367
  t212 := Tryz.underlying373
  a212 := Tryz.isAgg373
  z212 := Tryz.sizeOf373
  v212 := Tryz.zeroValue373
  t213 := Tryz.underlying374
  a213 := Tryz.isAgg374
  z213 := Tryz.sizeOf374
  t232 := Tryz.underlying363
  a232 := Tryz.isAgg363
  z232 := Tryz.sizeOf363
  v232 := Tryz.zeroValue363
  t233 := Tryz.underlying375
  a233 := Tryz.isAgg375
  z233 := Tryz.sizeOf375
  v233 := Tryz.zeroValue375
  g17 := by kernel_rfl
  g18 := by kernel_rfl
  g19 := by kernel_rfl }
open Go.RowKit Go.Sort Go.Lib in
/-- THE ROAD WITHOUT THE TABLE: 0 <= i < 100: NO PREMISE ON THE WORLD, AND THE WORLD IS AS IT WAS: a row that keeps its argument in that range need list no table ('laid = []'). (LAID: no walk: one application.) -/
theorem Tryz.strconv_Itoa_small (i : Nat) (hi : i < 100) (w : World) :
    Calls Tryz.prog 184 #[.int .i64 i] w fun e w' => e = .returned (.string ⟨(Lib.decDigits i).toArray⟩) ∧ w' = w := Any.strconv_Itoa_small Tryz.lays171 i hi w
def Tryz.lays190_ren : Go.Shelf.Ren := ⟨fun | 190 => 126 | 125 => 154 | 258 => 181 | 128 => 208 | 129 => 209 | 302 => 222 | 303 => 223 | 304 => 224 | 305 => 225 | 306 => 226 | 307 => 227 | 308 => 228 | 309 => 229 | 310 => 230 | 333 => 255 | 329 => 238 | 330 => 239 | 334 => 256 | 335 => 257 | 336 => 172 | 344 => 266 | n => n, fun | 31 => 103 | 9 => 9 | 3 => 3 | 46 => 263 | 0 => 0 | 51 => 220 | 53 => 314 | 4 => 4 | 183 => 307 | 182 => 306 | 131 => 58 | 5 => 5 | 218 => 338 | 222 => 342 | 228 => 357 | 229 => 358 | n => n, fun | n => n⟩
theorem Tryz.lays190 : Go.Proofs.Lays.n190 Tryz.prog Tryz.lays190_ren := {
  mixed := by kernel_rfl
  f125 := Tryz.func154.trans (congrArg some (by kernel_rfl))
  f128 := Tryz.func208.trans (congrArg some (by kernel_rfl))
  f129 := Tryz.func209.trans (congrArg some (by kernel_rfl))
  f190 := Tryz.func126.trans (congrArg some (by kernel_rfl))
  f258 := Tryz.func181.trans (congrArg some (by kernel_rfl))
  f302 := Tryz.func222.trans (congrArg some (by kernel_rfl))
  f303 := Tryz.func223.trans (congrArg some (by kernel_rfl))
  f304 := Tryz.func224.trans (congrArg some (by kernel_rfl))
  f305 := Tryz.func225.trans (congrArg some (by kernel_rfl))
  f306 := Tryz.func226.trans (congrArg some (by kernel_rfl))
  f307 := Tryz.func227.trans (congrArg some (by kernel_rfl))
  f308 := Tryz.func228.trans (congrArg some (by kernel_rfl))
  f309 := Tryz.func229.trans (congrArg some (by kernel_rfl))
  f310 := Tryz.func230.trans (congrArg some (by kernel_rfl))
  f329 := Tryz.func238.trans (congrArg some (by kernel_rfl))
  f330 := Tryz.func239.trans (congrArg some (by kernel_rfl))
  f333 := Tryz.func255.trans (congrArg some (by kernel_rfl))
  f334 := Tryz.func256.trans (congrArg some (by kernel_rfl))
  f335 := Tryz.func257.trans (congrArg some (by kernel_rfl))
  f336 := Tryz.func172.trans (congrArg some (by kernel_rfl))
  f344 := Tryz.func266.trans (congrArg some (by kernel_rfl))
  t0 := Tryz.underlying0
  a0 := Tryz.isAgg0
  z0 := Tryz.sizeOf0
  v0 := Tryz.zeroValue0
  t3 := Tryz.underlying3
  a3 := Tryz.isAgg3
  z3 := Tryz.sizeOf3
  v3 := Tryz.zeroValue3
  t4 := Tryz.underlying4
  a4 := Tryz.isAgg4
  z4 := Tryz.sizeOf4
  v4 := Tryz.zeroValue4
  t5 := Tryz.underlying5
  a5 := Tryz.isAgg5
  z5 := Tryz.sizeOf5
  v5 := Tryz.zeroValue5
  t9 := Tryz.underlying9
  a9 := Tryz.isAgg9
  z9 := Tryz.sizeOf9
  v9 := Tryz.zeroValue9
  t31 := Tryz.underlying103
  a31 := Tryz.isAgg103
  z31 := Tryz.sizeOf103
  v31 := Tryz.zeroValue103
  t46 := Tryz.underlying263
  a46 := Tryz.isAgg263
  z46 := Tryz.sizeOf263
  v46 := Tryz.zeroValue263
  t51 := Tryz.underlying220
  a51 := Tryz.isAgg220
  z51 := Tryz.sizeOf220
  v51 := Tryz.zeroValue220
  t53 := Tryz.underlying314
  a53 := Tryz.isAgg314
  z53 := Tryz.sizeOf314
  v53 := Tryz.zeroValue314
  t131 := Tryz.underlying58
  a131 := Tryz.isAgg58
  z131 := Tryz.sizeOf58
  v131 := Tryz.zeroValue58
  t182 := Tryz.underlying306
  a182 := Tryz.isAgg306
  z182 := Tryz.sizeOf306
  v182 := Tryz.zeroValue306
  t183 := Tryz.underlying307
  a183 := Tryz.isAgg307
  z183 := Tryz.sizeOf307
  v183 := Tryz.zeroValue307
  t218 := Tryz.underlying338
  a218 := Tryz.isAgg338
  z218 := Tryz.sizeOf338
  v218 := Tryz.zeroValue338
  t222 := Tryz.underlying342
  a222 := Tryz.isAgg342
  z222 := Tryz.sizeOf342
  v222 := Tryz.zeroValue342
  t228 := Tryz.underlying357
  a228 := Tryz.isAgg357
  z228 := Tryz.sizeOf357
  v228 := Tryz.zeroValue357
  t229 := Tryz.underlying358
  a229 := Tryz.isAgg358
  z229 := Tryz.sizeOf358
  v229 := Tryz.zeroValue358 }
open Go.Sort Go.RowKit in
theorem Tryz.slices_Sort_string (blk off cap : Nat) (ss : List (List UInt8)) (w : World) (hH : Holds encStr w blk off ss.toArray) (hblk : blk < w.heap.size) (hsz : ss.length < 4611686018427387904) :
    Calls Tryz.prog 126 #[.slice (some ⟨blk, off, none⟩) ss.length cap] w fun e w' =>
      e = .returned (.tuple #[]) ∧ ∃ n os, w' = grow (putRow encStr (Sort.ahead w n) blk off (ss.mergeSort fun x y => decide (x ≤ y)).toArray) os := Any.slices_Sort_string Tryz.lays190 blk off cap ss w hH hblk hsz
def Tryz.lays108_ren : Go.Shelf.Ren := ⟨fun | 108 => 188 | n => n, fun | 28 => 176 | 3 => 3 | 0 => 0 | 4 => 4 | n => n, fun | n => n⟩
theorem Tryz.lays108 : Go.Proofs.Lays.n108 Tryz.prog Tryz.lays108_ren := {
  mixed := by kernel_rfl
  f108 := Tryz.func188.trans (congrArg some (by kernel_rfl))
  t0 := Tryz.underlying0
  a0 := Tryz.isAgg0
  z0 := Tryz.sizeOf0
  v0 := Tryz.zeroValue0
  t3 := Tryz.underlying3
  a3 := Tryz.isAgg3
  z3 := Tryz.sizeOf3
  v3 := Tryz.zeroValue3
  t4 := Tryz.underlying4
  a4 := Tryz.isAgg4
  z4 := Tryz.sizeOf4
  v4 := Tryz.zeroValue4
  t28 := Tryz.underlying176
  a28 := Tryz.isAgg176
  z28 := Tryz.sizeOf176
  v28 := Tryz.zeroValue176 }
open Go.Lib in
/-- slices.Index at []int: "Index returns the index of the first occurrence of v in s, or -1 if not present.": IT RETURNS 'Lib.idxOf (the elements) v'; the world is as it was. 'zs': what the cells behind the slice's address hold (its spare capacity too, if you have it); 'zs.take n': its elements. (LAID: no walk: one application.) -/
theorem Tryz.slices_Index_int (b off n c : Nat) (zs : List Int) (x : Int) (w : World) (hz : n ≤ zs.length) (hbig : n ≤ 9223372036854775807) (hc : ∀ j, j < zs.length → w.cell? ⟨b, off + j, none⟩ = some (.int .i64 (zs.getD j 0))) :
    Calls Tryz.prog 188 #[.slice (some ⟨b, off, none⟩) n c, .int .i64 x] w fun e w' => e = .returned (.int .i64 (Lib.idxOf (zs.take n) x)) ∧ w' = w := Any.slices_Index_int Tryz.lays108 b off n c zs x w hz hbig hc
open Go.Lib in
/-- The same at a slice of length 0, a nil one too: no cell is known, none is asked for. (LAID: no walk: one application.) -/
theorem Tryz.slices_Index_int_empty (a : Option Addr) (c : Nat) (x : Int) (w : World) :
    Calls Tryz.prog 188 #[.slice a 0 c, .int .i64 x] w fun e w' => e = .returned (.int .i64 (Lib.idxOf [] x)) ∧ w' = w := Any.slices_Index_int_empty Tryz.lays108 a c x w
def Tryz.lays107_ren : Go.Shelf.Ren := ⟨fun | 107 => 132 | 108 => 188 | n => n, fun | 28 => 176 | 3 => 3 | 4 => 4 | 0 => 0 | n => n, fun | n => n⟩
theorem Tryz.lays107 : Go.Proofs.Lays.n107 Tryz.prog Tryz.lays107_ren := {
  mixed := by kernel_rfl
  f107 := Tryz.func132.trans (congrArg some (by kernel_rfl))
  f108 := Tryz.func188.trans (congrArg some (by kernel_rfl))
  t0 := Tryz.underlying0
  a0 := Tryz.isAgg0
  z0 := Tryz.sizeOf0
  v0 := Tryz.zeroValue0
  t3 := Tryz.underlying3
  a3 := Tryz.isAgg3
  z3 := Tryz.sizeOf3
  v3 := Tryz.zeroValue3
  t4 := Tryz.underlying4
  a4 := Tryz.isAgg4
  z4 := Tryz.sizeOf4
  v4 := Tryz.zeroValue4
  t28 := Tryz.underlying176
  a28 := Tryz.isAgg176
  z28 := Tryz.sizeOf176
  v28 := Tryz.zeroValue176 }
open Go.Lib in
/-- slices.Contains at []int: "Contains reports whether v is present in s.": IT RETURNS 'elements.contains v'; the world is as it was. ITS CALLEE slices.Index IS MET BY ITS OWN CONTRACT OFF THE SHELF (lay that first): no loop is walked here. (LAID: no walk: one application.) -/
theorem Tryz.slices_Contains_int (b off n c : Nat) (zs : List Int) (x : Int) (w : World) (hz : n ≤ zs.length) (hbig : n ≤ 9223372036854775807) (hc : ∀ j, j < zs.length → w.cell? ⟨b, off + j, none⟩ = some (.int .i64 (zs.getD j 0))) :
    Calls Tryz.prog 132 #[.slice (some ⟨b, off, none⟩) n c, .int .i64 x] w fun e w' => e = .returned (.bool ((zs.take n).contains x)) ∧ w' = w := Any.slices_Contains_int Tryz.lays107 b off n c zs x w hz hbig hc
open Go.Lib in
/-- The same at a slice of length 0, a nil one too. (LAID: no walk: one application.) -/
theorem Tryz.slices_Contains_int_empty (a : Option Addr) (c : Nat) (x : Int) (w : World) :
    Calls Tryz.prog 132 #[.slice a 0 c, .int .i64 x] w fun e w' => e = .returned (.bool false) ∧ w' = w := Any.slices_Contains_int_empty Tryz.lays107 a c x w
def Tryz.lays194_ren : Go.Shelf.Ren := ⟨fun | 194 => 127 | n => n, fun | 31 => 103 | 9 => 9 | 3 => 3 | 4 => 4 | 0 => 0 | n => n, fun | n => n⟩
theorem Tryz.lays194 : Go.Proofs.Lays.n194 Tryz.prog Tryz.lays194_ren := {
  mixed := by kernel_rfl
  f194 := Tryz.func127.trans (congrArg some (by kernel_rfl))
  t0 := Tryz.underlying0
  a0 := Tryz.isAgg0
  z0 := Tryz.sizeOf0
  v0 := Tryz.zeroValue0
  t3 := Tryz.underlying3
  a3 := Tryz.isAgg3
  z3 := Tryz.sizeOf3
  v3 := Tryz.zeroValue3
  t4 := Tryz.underlying4
  a4 := Tryz.isAgg4
  z4 := Tryz.sizeOf4
  v4 := Tryz.zeroValue4
  t9 := Tryz.underlying9
  a9 := Tryz.isAgg9
  z9 := Tryz.sizeOf9
  v9 := Tryz.zeroValue9
  t31 := Tryz.underlying103
  a31 := Tryz.isAgg103
  z31 := Tryz.sizeOf103
  v31 := Tryz.zeroValue103 }
open Go.RowKit Go.Lib Go.Sort in
/-- slices.Compact at []string, over an array: the library's two loops are walked. (LAID: no walk: one application.) -/
theorem Tryz.slices_Compact_string_arr (blk off cap : Nat) (d : Array (List UInt8)) (w : World) (hH : Holds encStr w blk off d) (hsz : d.size ≤ 9223372036854775807) (hcap : d.size ≤ cap) :
    Calls Tryz.prog 127 #[.slice (some ⟨blk, off, none⟩) d.size cap] w fun e w' => e = .returned (.slice (some ⟨blk, off, none⟩) (compactUpTo d d.size).length cap) ∧ ∃ q, w' = putRow encStr (Sort.ahead w q) blk off (compactUpTo d d.size ++ List.replicate (d.size - (compactUpTo d d.size).length) []).toArray := Any.slices_Compact_string_arr Tryz.lays194 blk off cap d w hH hsz hcap
open Go.RowKit Go.Lib Go.Sort in
/-- slices.Compact at []string: "Compact replaces consecutive runs of equal elements with a single copy. This is like the uniq command found on Unix. Compact modifies the contents of the slice s and returns the modified slice, which may have a smaller length. Compact zeroes the elements between the new length and the original length. The result preserves the nilness of s.": IT RETURNS THE SLICE CUT TO 'Lib.compact zs'; ITS CELLS HOLD 'Lib.compact zs', THEN ZERO VALUES up to the old length; all else is as it was, but for the count of draws. IN THE WORDS OF slices.Sort's CONTRACT ('Holds', 'putRow'): so the everyday 'slices.Sort(xs); xs = slices.Compact(xs)' goes from the one contract to the other. It asks 'zs.length ≤ cap' (every slice's: the reslicing 's[:k]' looks at it). Length 0, nil: '.._empty'. (LAID: no walk: one application.) -/
theorem Tryz.slices_Compact_string (blk off cap : Nat) (zs : List (List UInt8)) (w : World) (hH : Holds encStr w blk off zs.toArray) (hsz : zs.length ≤ 9223372036854775807) (hcap : zs.length ≤ cap) :
    Calls Tryz.prog 127 #[.slice (some ⟨blk, off, none⟩) zs.length cap] w fun e w' => e = .returned (.slice (some ⟨blk, off, none⟩) (Lib.compact zs).length cap) ∧ ∃ q, w' = putRow encStr (Sort.ahead w q) blk off (Lib.compact zs ++ List.replicate (zs.length - (Lib.compact zs).length) []).toArray := Any.slices_Compact_string Tryz.lays194 blk off cap zs w hH hsz hcap
open Go.RowKit Go.Lib Go.Sort in
/-- The same at a slice of length 0, a nil one too: it comes back as it is. (LAID: no walk: one application.) -/
theorem Tryz.slices_Compact_string_empty (a : Option Addr) (cap : Nat) (w : World) :
    Calls Tryz.prog 127 #[.slice a 0 cap] w fun e w' => e = .returned (.slice a 0 cap) ∧ w' = w := Any.slices_Compact_string_empty Tryz.lays194 a cap w
open Go.RowKit Go.Lib Go.Sort in
/-- slices.Compact at []string, of an argument. (LAID: no walk: one application.) -/
theorem Tryz.slices_Compact_string_cells (b off n c : Nat) (Sx : Nat → ByteArray) (w : World) (hbig : n ≤ 9223372036854775807) (hcap : n ≤ c) (hc : ∀ i, i < n → w.cell? ⟨b, off + i, none⟩ = some (.string (Sx i))) (hf : ∀ j, j < n → w.frozen? ⟨b, off + j, none⟩ = false) :
    Calls Tryz.prog 127 #[.slice (some ⟨b, off, none⟩) n c] w fun e w' => e = .returned (.slice (some ⟨b, off, none⟩) (Lib.compact (Lib.strsOf Sx n)).length c) ∧ ∃ q, w' = (w.drewN q).setCells b off ((Lib.compact (Lib.strsOf Sx n) ++ List.replicate (n - (Lib.compact (Lib.strsOf Sx n)).length) []).map encStr) := Any.slices_Compact_string_cells Tryz.lays194 b off n c Sx w hbig hcap hc hf
open Go.RowKit Go.Sort in
/-- .. and plain. (LAID: no walk: one application.) -/
theorem Tryz.slices_Sort_string_none (p : Option Addr) (cap : Nat) (w : World) :
    Calls Tryz.prog 126 #[.slice p 0 cap] w fun e w' => e = .returned (.tuple #[]) ∧ w' = w := Any.slices_Sort_string_none Tryz.lays190 p cap w
def Tryz.lays28t_ren : Go.Shelf.Ren := ⟨fun | 28 => 254 | n => n, fun | 27 => 220 | 3 => 3 | 4 => 4 | 25 => 263 | 53 => 363 | 0 => 0 | 5 => 5 | n => n, fun | 0 => 0 | n => n⟩
theorem Tryz.lays28t : Go.Proofs.Lays7.n28 Tryz.prog Tryz.lays28t_ren := {
  mixed := by kernel_rfl
  f28 := Tryz.func254.trans (congrArg some (by kernel_rfl))
  t0 := Tryz.underlying0
  a0 := Tryz.isAgg0
  z0 := Tryz.sizeOf0
  v0 := Tryz.zeroValue0
  i0 := by kernel_rfl
  t3 := Tryz.underlying3
  a3 := Tryz.isAgg3
  z3 := Tryz.sizeOf3
  v3 := Tryz.zeroValue3
  i3 := by kernel_rfl
  t4 := Tryz.underlying4
  a4 := Tryz.isAgg4
  z4 := Tryz.sizeOf4
  v4 := Tryz.zeroValue4
  i4 := by kernel_rfl
  t5 := Tryz.underlying5
  a5 := Tryz.isAgg5
  z5 := Tryz.sizeOf5
  v5 := Tryz.zeroValue5
  i5 := by kernel_rfl
  t25 := Tryz.underlying263
  a25 := Tryz.isAgg263
  z25 := Tryz.sizeOf263
  v25 := Tryz.zeroValue263
  i25 := by kernel_rfl
  t27 := Tryz.underlying220
  a27 := Tryz.isAgg220
  z27 := Tryz.sizeOf220
  v27 := Tryz.zeroValue220
  i27 := by kernel_rfl
  t53 := Tryz.underlying363
  a53 := Tryz.isAgg363
  z53 := Tryz.sizeOf363
  v53 := Tryz.zeroValue363
  i53 := by kernel_rfl
  g0 := by kernel_rfl }
def Tryz.cloneS_ren : Go.Shelf.Ren := ⟨fun | 5 => 44 | 7 => 93 | n => n, fun | 23 => 77 | 25 => 9 | 3 => 3 | 4 => 4 | 20 => 20 | n => n, fun | n => n⟩
theorem Tryz.cloneS : Go.Proofs.SlLaysW.n5 Tryz.prog Tryz.cloneS_ren := {
  mixed := by kernel_rfl
  f5 := ⟨Tryz.f44.name, by decide, Tryz.func44.trans (congrArg some (by kernel_rfl))⟩
  f7 := Tryz.func93.trans (congrArg some (by kernel_rfl))
  t4 := Tryz.underlying4
  a4 := Tryz.isAgg4
  z4 := Tryz.sizeOf4
  v4 := Tryz.zeroValue4
  t20 := Tryz.underlying20
  a20 := Tryz.isAgg20
  z20 := Tryz.sizeOf20
  v20 := Tryz.zeroValue20
  t23 := Tryz.underlying77
  a23 := Tryz.isAgg77
  z23 := Tryz.sizeOf77
  v23 := Tryz.zeroValue77 }
end Go.Proofs
namespace Go.Proofs.YteibnmkikdbndaaGreatDoor
open Go Go.RowKit KE Go.Proofs
/-! ### slices.Sort, slices.Compact at texts -/
def unl (l : List UInt8) : ByteArray := ⟨l.toArray⟩
def ul (x : ByteArray) : List UInt8 := x.data.toList
theorem unl_ul (x : ByteArray) : unl (ul x) = x := by cases x; rfl
theorem ul_unl (l : List UInt8) : ul (unl l) = l := by simp [ul, unl]
def sortS (xs : List ByteArray) : List ByteArray := ((xs.map ul).mergeSort fun x y => decide (x ≤ y)).map unl
def compS (xs : List ByteArray) : List ByteArray := (Lib.compact (xs.map ul)).map unl
theorem sortS_len (xs : List ByteArray) : (sortS xs).length = xs.length := by simp [sortS, List.length_mergeSort]
theorem mapS_enc (xs : List ByteArray) : xs.map S = (xs.map ul).map encStr := by
  rw [List.map_map]
  refine List.map_congr_left fun x _ => ?_
  show S x = .string (unl (ul x))
  rw [unl_ul]
theorem encS (ls : List (List UInt8)) : ls.map encStr = (ls.map unl).map S := by rw [List.map_map]; rfl
theorem c126 {s : Sy} [NoEx s] {L : List Hp} {v : Value} {xs : List ByteArray} (w : World) (H : Hd s w (Sl v 9 1 xs.length (xs.map S) :: L)) : CC Tryz.prog 126 [v].toArray w (fun r w' => r = .tuple #[] ∧ Hd s w' (Sl v 9 1 xs.length ((sortS xs).map S) :: L)) := by
  refine CC.of_calls ?_
  cases xs with
  | nil =>
    obtain ⟨a, c, rfl⟩ := (H.sl 0 rfl).shape
    exact (Tryz.slices_Sort_string_none a c w).mono fun e w' ⟨he, hw⟩ => ⟨_, he, rfl, by subst hw; simpa [sortS] using H⟩
  | cons x r =>
    obtain ⟨b, o, c, rfl, -⟩ := (H.sl 0 rfl).at_ (show 0 < (x :: r).length by simp)
    have hle := (H.sl 0 rfl).1.2
    rw [mapS_enc] at H
    obtain ⟨hh, hb⟩ := H.holds 0 rfl
    have := Tryz.slices_Sort_string b o c ((x :: r).map ul) w (holds_map hh) hb (by simp at hle ⊢; omega)
    rw [List.length_map] at this
    refine this.mono fun e w' ⟨he, n, os, hw⟩ => ⟨_, he, rfl, ?_⟩
    subst hw
    rw [putRow_map]
    refine Hd.grew ?_ os
    have H2 := (H.ahead n).putRow (cs' := (((x :: r).map ul).mergeSort fun x y => decide (x ≤ y)).map encStr) 0 rfl (by simp [List.length_mergeSort])
    rw [show (sortS (x :: r)).map S = (((x :: r).map ul).mergeSort fun x y => decide (x ≤ y)).map encStr from (encS _).symm]
    exact H2
theorem comp_le (l : List (List UInt8)) : (Lib.compact l).length ≤ l.length := Lib.compact_length_le l
theorem compS_nil : compS [] = [] := rfl
theorem c127 {s : Sy} [NoEx s] {L : List Hp} {v : Value} {xs : List ByteArray} (w : World) (H : Hd s w (Sl v 9 1 xs.length (xs.map S) :: L)) : CC Tryz.prog 127 [v].toArray w (fun r w' => Hd s w' (Sl r 9 1 (compS xs).length ((compS xs).map S) :: L)) := by
  refine CC.of_calls ?_
  cases xs with
  | nil =>
    obtain ⟨a, c, rfl⟩ := (H.sl 0 rfl).shape
    exact (Tryz.slices_Compact_string_empty a c w).mono fun e w' ⟨he, hw⟩ => ⟨_, he, by subst hw; rw [compS_nil]; exact H⟩
  | cons x r =>
    obtain ⟨b, o, c, rfl, -⟩ := (H.sl 0 rfl).at_ (show 0 < (x :: r).length by simp)
    have hle := (H.sl 0 rfl).1.2
    have hcap := (Hd.cap H 0 rfl).1
    rw [mapS_enc] at H
    obtain ⟨hh, hb⟩ := H.holds 0 rfl
    have hcl := comp_le ((x :: r).map ul)
    have := Tryz.slices_Compact_string b o c ((x :: r).map ul) w (holds_map hh) (by simp at hle ⊢; omega) (by simpa using hcap)
    rw [List.length_map] at this
    refine this.mono fun e w' ⟨he, n, hw⟩ => ⟨_, he, ?_⟩
    subst hw
    rw [putRow_map]
    have H2 := (H.ahead n).putRow (cs' := (Lib.compact ((x :: r).map ul) ++ List.replicate ((x :: r).length - (Lib.compact ((x :: r).map ul)).length) []).map encStr) 0 rfl (by simp at hcl ⊢; omega)
    have H3 := H2.cutTo (m := (Lib.compact ((x :: r).map ul)).length) 0 rfl (by simpa using hcl)
    rw [show (compS (x :: r)).length = (Lib.compact ((x :: r).map ul)).length by simp [compS], show (compS (x :: r)).map S = ((Lib.compact ((x :: r).map ul) ++ List.replicate ((x :: r).length - (Lib.compact ((x :: r).map ul)).length) []).map encStr).take ((Lib.compact ((x :: r).map ul)).length * 1) from ?_]
    · exact H3
    · rw [Nat.mul_one, ← List.map_take, List.take_left' rfl, encS]; rfl
theorem ty103 : Ty Tryz.prog 103 (.slice none 0 0) 1 24 := Ty.of (by kernel_rfl)
theorem cal126 : Cal Tryz.prog 126 := ⟨_, Tryz.func126, rfl, by decide⟩
theorem cal127 : Cal Tryz.prog 127 := ⟨_, Tryz.func127, rfl, by decide⟩
def labsL (l : List Et) : List ByteArray := (l.filter fun p => decide (p.k = 1)).map Et.l
noncomputable def labsT (t : Et) : List ByteArray := if rightT t then compS (sortS (labsL (parts t))) else []
theorem labsL_y {pre : List Et} {x : Et} (h : x.k = 1) : labsL (pre ++ [x]) = labsL pre ++ [x.l] := by simp [labsL, List.filter_append, h]
theorem labsL_n {pre : List Et} {x : Et} (h : ¬ x.k = 1) : labsL (pre ++ [x]) = labsL pre := by simp [labsL, List.filter_append, h]
theorem labsL_le (l : List Et) : (labsL l).length ≤ l.length := by rw [labsL, List.length_map]; exact List.length_filter_le _ _
theorem len_snoc {α : Type} {l : List α} {x : α} : (l ++ [x]).length = l.length + 1 := by simp
theorem c66 {s : Sy} [NoEx s] {L : List Hp} {w0 : World} {t : Et} (w : World) (ht : EtR w0 t) (H : Hd s w (fr w0 :: L)) : CC Tryz.prog 66 [.agg (etC t).toArray].toArray w (fun r w' => Hd s w' (Sl r 9 1 (labsT t).length ((labsT t).map S) :: fr w0 :: L)) := by
  refine CC.of (N := 22) Tryz.func66 rfl rfl rfl ?_
  refine WC.seq ?_
  refine WC.region ?_
  refine l_st rfl (s_box (by conv => lhs; whnf) H fun b1 w H => ?_)
  refine l_st rfl (s_alloc ty103 H fun b2 w H => ?_)
  refine WL.nil ?_
  refine WC.seq ?_
  refine WC.seq ?_
  refine WC.region ?_
  refine l_rd rfl rfl (x_loadF (vs := [_, _, _]) Tryz.underlying25 rfl ty25 rfl rfl (H.cellsL 1 rfl rfl)) ?_
  refine l_st rfl (s_callL cal110 (c110 _ (ht.old (H.old 2 rfl))) ?_)
  rintro r w ⟨hr1, e1⟩
  have H := H.ext e1
  by_cases h5 : rightT t
  ·
    obtain rfl : r = .bool true := by rw [hr1, decide_eq_true h5]
    have hR : rightT t := h5
    refine l_rd rfl rfl (x_not rfl) ?_
    refine WL.nil ?_
    refine WC.cond0 rfl ?_
    refine WC.skip ?_
    refine WC.seq ?_
    refine WC.seq ?_
    refine WC.region ?_
    refine l_rd rfl rfl (x_loadF (vs := [_, _, _]) Tryz.underlying25 rfl ty25 rfl rfl (H.cellsL 1 rfl rfl)) ?_
    refine l_st rfl (s_callL cal125 (c125 _ H) ?_)
    rintro _ w ⟨b5, rfl, H⟩
    refine WL.nil ?_
    refine WC.block ?_
    have H := Hd.starAt [_] (PX.mk (α := Value) (φ := fun _ => True) (A := fun v => [pt b2 (.cells #[v] 103 (0, 0)), Sl v 9 1 (labsL []).length ((labsL []).map S)]) (.slice none 0 0) trivial (Hd.arrT [_, _, _, _, _] [2, 0, 1, 4, 3] (by decide) rfl (Hd.nil H 9 1)))
    refine WC.rangeFn (P := Tryz.prog) (caps := [.pointer (some ⟨b5, 0, none⟩)]) (E := eE) (xs := parts t) (A := star (pt b5 (.cells (etC t).toArray 25 (0, 0))) (fr w0)) (B := fun _ => star (pt b5 (.cells (etC t).toArray 25 (0, 0))) (fr w0)) (I := fun pre => PX (α := Value) (fun _ => True) (fun v => [pt b2 (.cells #[v] 103 (0, 0)), Sl v 9 1 (labsL pre).length ((labsL pre).map S)])) (X := fun _ _ => fun _ => False) (L := pt b1 (.cells (etC t).toArray 25 (0, 0)) :: L) rfl cal179 (by decide) (fun x vs h hv => by have : vs = _ := hv; rw [this]; rfl) (it179 ht) H ?_ ?_ ?_
    ·
      intro l pre x rest vs w L' L2 hxs hrec H
      obtain ⟨hh, _, hvs⟩ := H.fact_at 1 rfl
      have hvs : vs = [.agg (etC x).toArray] := hvs
      subst hvs
      refine WC.region ?_
      refine l_st rfl (s_alloc ty25 H fun b3 w H => ?_)
      have hxt : EtR w0 x := ht.parts _ (Nat.lt_succ_self _) x (by rw [hxs]; simp)
      refine l_no (s_stA 0 rfl ty25 rfl (by conv => lhs; whnf) rfl (etC_one hxt) rfl H (fun w H => ?_))
      refine WL.nil ?_
      refine ⟨⟨[_, _, _], H⟩, fun w2 hw2 => ?_⟩
      clear hrec
      have H := Hd.arrT [_, _, _] [1, 0] (by decide) rfl (hw2 [_, _, _] H)
      clear hw2
      obtain ⟨v0, -, H⟩ := PX.opn H
      obtain ⟨a0, c0, rfl⟩ := (H.sl 1 rfl).shape
      have hll : (labsL pre).length ≤ 24 := by have h1 := hR.1; rw [hxs] at h1; have h2 := labsL_le pre; simp only [List.length_append] at h1; omega
      refine WC.block ?_
      refine WC.seq ?_
      refine WC.region ?_
      refine l_rd rfl rfl (x_fieldAddr (k := 0) Tryz.underlying25 rfl rfl ty22 (by decide) rfl) ?_
      refine l_rd rfl rfl (x_load Tryz.underlying22 rfl rfl (H.cellL 2 rfl rfl)) ?_
      refine l_rdD rfl rfl (x_eql rfl rfl) (fun h12 => ?_) (fun h12 => ?_)
      ·
        refine WL.nil ?_
        refine WC.cond1 rfl ?_
        refine WC.region ?_
        refine l_rd rfl rfl (x_load Tryz.underlying103 rfl rfl (H.cellL 0 rfl rfl)) ?_
        refine l_rd rfl rfl (x_fieldAddr (k := 1) Tryz.underlying25 rfl rfl ty9 (by decide) rfl) ?_
        refine l_rd rfl rfl (x_load Tryz.underlying9 rfl rfl (H.cellL 2 rfl rfl)) ?_
        refine l_st rfl (s_build1 Tryz.underlying103 ty9 rfl (by conv => lhs; whnf) rfl H fun b16 w H => ?_)
        refine l_st rfl (s_append Tryz.underlying103 ty9 rfl (by decide) (by decide) rfl 2 rfl rfl rfl (H.sl 0 rfl) (by simp [Value.oneCell']) (by omega) H fun v17 w H => ?_)
        obtain ⟨a17, c17, rfl⟩ := (H.sl 2 rfl).shape
        refine l_no (s_st 1 rfl ty103 rfl (by conv => lhs; whnf) rfl rfl H fun w H => ?_)
        refine WL.nil ?_
        have hlab : labsL (pre ++ [x]) = labsL pre ++ [x.l] := labsL_y h12
        exact PX.mk _ trivial (by rw [hlab, len_snoc, List.map_append]; exact Hd.arrT [_, _, _, _] [1, 2] (by decide) rfl H)
      ·
        refine WL.nil ?_
        refine WC.cond0 rfl ?_
        refine WC.skip ?_
        have hlab : labsL (pre ++ [x]) = labsL pre := labsL_n h12
        exact PX.mk _ trivial (by rw [hlab]; exact Hd.arrT [_, _, _] [0, 1] (by decide) rfl H)
    ·
      intro w m H
      obtain ⟨v0, -, H⟩ := PX.opn H
      obtain ⟨a0, c0, rfl⟩ := (H.sl 1 rfl).shape
      have H := Hd.unstarAt [_, _] H
      refine WC.seq ?_
      refine WC.region ?_
      refine l_rd rfl rfl (x_load Tryz.underlying103 rfl rfl (H.cellL 0 rfl rfl)) ?_
      refine l_st rfl (s_callL cal126 (c126 _ (Hd.arrT [_, _, _, _, _, _] [1, 0, 2, 3, 4, 5] (by decide) rfl H)) ?_)
      rintro _ w ⟨rfl, H⟩
      refine WL.nil ?_
      refine WC.seq ?_
      refine WC.region ?_
      refine l_rd rfl rfl (x_load Tryz.underlying103 rfl rfl (H.cellL 1 rfl rfl)) ?_
      refine l_st rfl (s_callL cal127 (c127 (xs := sortS (labsL (parts t))) _ (by rw [sortS_len]; exact Hd.arrT [_, _, _, _, _, _] [0, 1, 2, 3, 4, 5] (by decide) rfl H)) ?_)
      rintro v9 w H
      obtain ⟨a9, c9, rfl⟩ := (H.sl 0 rfl).shape
      refine l_no (s_st 1 rfl ty103 rfl (by conv => lhs; whnf) rfl rfl H fun w H => ?_)
      refine WL.nil ?_
      refine WC.ret ?_
      refine atRet ?_
      refine RetM.mark H (i := 4) rfl (fun w H => ?_)
      exact RetM.cell1 rfl (by (conv => lhs; whnf); try rfl) Tryz.underlying103 rfl (H.cellL 1 rfl rfl) (by rw [labsT, if_pos hR]; exact Hd.arrT [_, _, _, _, _, _] [0, 3] (by decide) rfl H)
    ·
      intro w m c pre x rest hxs H
      obtain ⟨hh, _, hF⟩ := H.fact_at 0 rfl
      exact hF.elim
  ·
    obtain rfl : r = .bool false := by rw [hr1, decide_eq_false h5]
    refine l_rd rfl rfl (x_not rfl) ?_
    refine WL.nil ?_
    refine WC.cond1 rfl ?_
    refine WC.seq ?_
    refine WC.region ?_
    refine l_no (s_st 0 rfl ty103 rfl ev_c rfl rfl H fun w H => ?_)
    refine WL.nil ?_
    refine WC.ret ?_
    refine atRet ?_
    exact RetM.cell1 rfl (by (conv => lhs; whnf); try rfl) Tryz.underlying103 rfl (H.cellL 0 rfl rfl) (by rw [labsT, if_neg h5]; exact Hd.nil (Hd.arrT [_, _, _] [2] (by decide) rfl H) 9 1)
/-! ### sets of positions -/
theorem and_lt {s : Nat} (h : s ≠ 0) : s &&& (s - 1) < s := Nat.lt_of_le_of_lt Nat.and_le_right (by omega)
def bitsF (s : Nat) : List Nat := if h : s = 0 then [] else Lib.ctz 32 s :: bitsF (s &&& (s - 1))
 termination_by s
 decreasing_by exact and_lt h
theorem bitsF_0 : bitsF 0 = [] := by rw [bitsF]; rfl
theorem bitsF_pos {s : Nat} (h : s ≠ 0) : bitsF s = Lib.ctz 32 s :: bitsF (s &&& (s - 1)) := by rw [bitsF, dif_neg h]
theorem tz_bit {s : Nat} (h : s ≠ 0) (h2 : s < 4294967296) : s.testBit (Lib.ctz 32 s) = true := by
  obtain ⟨m, h3, h4⟩ := Lib.ctzFrom_spec 32 s (by omega) h2
  have e : Lib.ctz 32 s = Lib.ctzFrom 32 s := by unfold Lib.ctz; rw [if_neg h]
  rw [e]
  generalize Lib.ctzFrom 32 s = c at h3 h4
  subst h3
  rw [Nat.testBit_two_pow_mul]
  simp [Nat.testBit_zero]
theorem bits_bit {p : Nat} : ∀ (n s : Nat), s < n → s < 4294967296 → p ∈ bitsF s → s.testBit p = true
  | 0, s, h, _, _ => absurd h (by omega)
  | n + 1, s, h, h2, hp => by
    by_cases h0 : s = 0
    · subst h0; rw [bitsF_0] at hp; cases hp
    · rw [bitsF_pos h0] at hp
      rcases List.mem_cons.1 hp with rfl | hp
      · exact tz_bit h0 h2
      · have := bits_bit n (s &&& (s - 1)) (by have := and_lt h0; omega) (by have := and_lt h0; omega) hp
        rw [Nat.testBit_and] at this
        exact (Bool.and_eq_true_iff.1 this).1
/-- positions from 1 to m -/
def okS (m s : Nat) : Prop := s < 33554432 ∧ ∀ p, s.testBit p = true → 1 ≤ p ∧ p ≤ m
theorem okS.zero (m : Nat) : okS m 0 := ⟨by omega, fun p h => by simp at h⟩
theorem okS.or {m a b : Nat} (ha : okS m a) (hb : okS m b) : okS m (a ||| b) := ⟨Nat.or_lt_two_pow (n := 25) ha.1 hb.1, fun p h => by
  rw [Nat.testBit_or] at h
  rcases Bool.or_eq_true_iff.1 h with h | h
  · exact ha.2 p h
  · exact hb.2 p h⟩
theorem okS.and {m a b : Nat} (ha : okS m a) : okS m (a &&& b) := ⟨Nat.lt_of_le_of_lt Nat.and_le_left ha.1, fun p h => by
  rw [Nat.testBit_and] at h
  exact ha.2 p (Bool.and_eq_true_iff.1 h).1⟩
theorem okS.mono {m n a : Nat} (ha : okS m a) (h : m ≤ n) : okS n a := ⟨ha.1, fun p hp => ⟨(ha.2 p hp).1, by have := (ha.2 p hp).2; omega⟩⟩
theorem okS.bits {m s p : Nat} (h : okS m s) (hp : p ∈ bitsF s) : 1 ≤ p ∧ p ≤ m := h.2 p (bits_bit _ s (Nat.lt_succ_self _) (by have := h.1; omega) hp)
def ofF (p : Nat) : Nat := if p ≤ 24 then 2 ^ p else 0
theorem ofF_lt (p : Nat) : ofF p < 33554432 := by
  unfold ofF; split
  · rename_i h; exact Nat.lt_of_le_of_lt (Nat.pow_le_pow_right (by decide) h) (by decide)
  · omega
theorem okS.of {m p : Nat} (h1 : 1 ≤ p) (h2 : p ≤ m) : okS m (ofF p) := ⟨ofF_lt p, fun q hq => by
  unfold ofF at hq
  split at hq
  · rw [Nat.testBit_two_pow] at hq
    have : p = q := by simpa using hq
    omega
  · simp at hq⟩
/-! ### positions of an expression: labels, what follows -/
abbrev Ns := List ByteArray × List Nat
def linkL (fl : List Nat) (ahead behind : Nat) : List Nat := (bitsF ahead).foldl (fun fl p => fl.set p (fl.getD p 0 ||| behind)) fl
noncomputable def emptyE (t : Et) : Bool := decide (rightT t) && emptyT t
 mutual
noncomputable def partF : Et → Ns → Ns × Nat × Nat
  | .mk k l _ ks, st =>
    if k = 1 then ((st.1 ++ [l], st.2), ofF (st.1.length + 1), ofF (st.1.length + 1))
    else if k = 2 then rowF ks st true 0 0
    else
      let r := kidsF ks st 0 0
      if k = 4 ∨ k = 5 then ((r.1.1, linkL r.1.2 r.2.2 r.2.1), r.2.1, r.2.2) else r
noncomputable def rowF : List Et → Ns → Bool → Nat → Nat → Ns × Nat × Nat
  | [], st, _, ends, first => (st, first, ends)
  | t :: r, st, op, ends, first =>
    let x := partF t st
    rowF r (x.1.1, linkL x.1.2 ends x.2.1) (op && emptyE t) ((if emptyE t then ends else 0) ||| x.2.2) (if op then first ||| x.2.1 else first)
noncomputable def kidsF : List Et → Ns → Nat → Nat → Ns × Nat × Nat
  | [], st, f, la => (st, f, la)
  | t :: r, st, f, la =>
    let x := partF t st
    kidsF r x.1 (f ||| x.2.1) (la ||| x.2.2)
end
 mutual
def leaves : Et → Nat
  | .mk k _ _ ks => if k = 1 then 1 else leavesL ks
def leavesL : List Et → Nat
  | [] => 0
  | t :: r => leaves t + leavesL r
end
def okN (st : Ns) : Prop := st.2.length = 25 ∧ st.1.length ≤ 24 ∧ ∀ (i x : Nat), st.2[i]? = some x → okS st.1.length x
theorem linkL_ok {m behind : Nat} (hb : okS m behind) : ∀ (l : List Nat) (fl : List Nat), (fl.length = 25 ∧ ∀ (i x : Nat), fl[i]? = some x → okS m x) → ((l.foldl (fun fl p => fl.set p (fl.getD p 0 ||| behind)) fl).length = 25 ∧ ∀ (i x : Nat), (l.foldl (fun fl p => fl.set p (fl.getD p 0 ||| behind)) fl)[i]? = some x → okS m x)
  | [], fl, h => h
  | p :: l, fl, h => linkL_ok hb l _ ⟨by rw [List.length_set]; exact h.1, fun i x hx => by
      rw [List.getElem?_set] at hx
      split at hx
      · split at hx
        · cases hx
          rename_i hlt
          rw [List.getD_eq_getElem?_getD, List.getElem?_eq_getElem hlt]
          exact okS.or (h.2 p _ (List.getElem?_eq_getElem hlt)) hb
        · cases hx
      · exact h.2 i x hx⟩
theorem okN.link {labs : List ByteArray} {fl : List Nat} {a b : Nat} (h : okN (labs, fl)) (hb : okS labs.length b) : okN (labs, linkL fl a b) :=
  have := linkL_ok hb (bitsF a) fl ⟨h.1, h.2.2⟩
  ⟨this.1, h.2.1, this.2⟩
theorem okN.app {labs : List ByteArray} {fl : List Nat} {l : ByteArray} (h : okN (labs, fl)) (hl : labs.length + 1 ≤ 24) : okN (labs ++ [l], fl) :=
  ⟨h.1, by simpa using hl, fun i x hx => (h.2.2 i x hx).mono (by simp)⟩
def okR (n : Nat) (r : Ns × Nat × Nat) : Prop := okN r.1 ∧ okS r.1.1.length r.2.1 ∧ okS r.1.1.length r.2.2 ∧ r.1.1.length = n
 mutual
theorem partF_ok : (t : Et) → (st : Ns) → okN st → st.1.length + leaves t ≤ 24 → okR (st.1.length + leaves t) (partF t st)
  | .mk k l v ks, st, h, hl => by
    rw [partF, leaves] at *
    by_cases h1 : k = 1
    · rw [if_pos h1] at hl ⊢
      rw [if_pos h1]
      exact ⟨h.app hl, okS.of (by omega) (by simp), okS.of (by omega) (by simp), by simp⟩
    · rw [if_neg h1] at hl ⊢
      rw [if_neg h1]
      by_cases h2 : k = 2
      · rw [if_pos h2]
        exact rowF_ok ks st true 0 0 h (okS.zero _) (okS.zero _) hl
      · rw [if_neg h2]
        have hk := kidsF_ok ks st 0 0 h (okS.zero _) (okS.zero _) hl
        generalize kidsF ks st 0 0 = r at hk
        by_cases h3 : k = 4 ∨ k = 5
        · simp only []
          rw [if_pos h3]
          exact ⟨hk.1.link hk.2.1, hk.2.1, hk.2.2.1, hk.2.2.2⟩
        · simp only []
          rw [if_neg h3]; exact hk
theorem rowF_ok : (ks : List Et) → (st : Ns) → (op : Bool) → (ends first : Nat) → okN st → okS st.1.length ends → okS st.1.length first → st.1.length + leavesL ks ≤ 24 → okR (st.1.length + leavesL ks) (rowF ks st op ends first)
  | [], st, op, ends, first, h, he, hf, hl => ⟨h, hf, he, by simp [leavesL, rowF]⟩
  | t :: r, st, op, ends, first, h, he, hf, hl => by
    rw [rowF]
    rw [leavesL] at hl ⊢
    have hx := partF_ok t st h (by omega)
    generalize partF t st = x at hx
    obtain ⟨⟨labs, fl⟩, f, la⟩ := x
    obtain ⟨x1, x2, x3, x4⟩ := hx
    simp only [] at x1 x2 x3 x4 ⊢
    have hm : st.1.length ≤ labs.length := by omega
    have := rowF_ok r (labs, linkL fl ends f) (op && emptyE t) ((if emptyE t then ends else 0) ||| la) (if op then first ||| f else first) (x1.link x2)
      (okS.or (by split; exact he.mono hm; exact okS.zero _) x3) (by split; exact (hf.mono hm).or x2; exact hf.mono hm) (by show labs.length + _ ≤ 24; omega)
    rw [show st.1.length + (leaves t + leavesL r) = labs.length + leavesL r by omega]
    exact this
theorem kidsF_ok : (ks : List Et) → (st : Ns) → (f la : Nat) → okN st → okS st.1.length f → okS st.1.length la → st.1.length + leavesL ks ≤ 24 → okR (st.1.length + leavesL ks) (kidsF ks st f la)
  | [], st, f, la, h, hf, he, hl => ⟨h, hf, he, by simp [leavesL, kidsF]⟩
  | t :: r, st, f, la, h, hf, he, hl => by
    rw [kidsF]
    rw [leavesL] at hl ⊢
    have hx := partF_ok t st h (by omega)
    generalize partF t st = x at hx
    obtain ⟨⟨labs, fl⟩, f1, la1⟩ := x
    obtain ⟨x1, x2, x3, x4⟩ := hx
    simp only [] at x1 x2 x3 x4 ⊢
    have hm : st.1.length ≤ labs.length := by omega
    have := kidsF_ok r (labs, fl) (f ||| f1) (la ||| la1) x1 ((hf.mono hm).or x2) ((he.mono hm).or x3) (by show labs.length + _ ≤ 24; omega)
    rw [show st.1.length + (leaves t + leavesL r) = labs.length + leavesL r by omega]
    exact this
end
 mutual
theorem leaves_le : (t : Et) → leaves t ≤ (parts t).length
  | .mk k l v ks => by
    rw [leaves, parts, List.length_cons]
    have := leavesL_le ks
    split <;> omega
theorem leavesL_le : (l : List Et) → leavesL l ≤ (partsL l).length
  | [] => Nat.le_refl _
  | t :: r => by
    rw [leavesL, partsL, List.length_append]
    have := leaves_le t; have := leavesL_le r
    omega
end
theorem leavesL_sum (l : List Et) : leavesL l = (l.map leaves).sum := by
  induction l with
  | nil => rfl
  | cons t r ih => rw [leavesL, List.map_cons, List.sum_cons, ih]
theorem ty176 : Ty Tryz.prog 176 (.slice none 0 0) 1 24 := Ty.of (by kernel_rfl)
theorem ty221 : Ty Tryz.prog 221 (.int .u32 0) 1 4 := Ty.of (by kernel_rfl)
theorem cal221 : Cal Tryz.prog 221 := ⟨_, Tryz.func221, rfl, by decide⟩
theorem cal253 : Cal Tryz.prog 253 := ⟨_, Tryz.func253, rfl, by decide⟩
theorem cal254 : Cal Tryz.prog 254 := ⟨_, Tryz.func254, rfl, by decide⟩
abbrev nI (p : Nat) : Value := I (p : Int)
def nE : Nat → List Value → Hp := fun x vs => fun _ => vs = [nI x]
theorem bitsF_len : ∀ (n s : Nat), s < n → (bitsF s).length ≤ s
  | 0, s, h => absurd h (by omega)
  | n + 1, s, h => by
    by_cases h0 : s = 0
    · subst h0; rw [bitsF_0]; exact Nat.le_refl _
    · rw [bitsF_pos h0, List.length_cons]
      have := and_lt h0
      have := bitsF_len n (s &&& (s - 1)) (by omega)
      omega
/-- the library's tables -/
def TB (w : World) : Prop := TabAt 0 Lib.deBruijn32tab w ∧ Lib.TabIs Tryz.prog w "internal/strconv.uint64pow10" .u64 Lib.pow10Tab
theorem TB.old {w w' : World} (h : TB w) (o : Old w w') : TB w' := by
  refine ⟨fun j hj => o.cell (h.1 j hj), ?_⟩
  have h2 := h.2
  unfold Lib.TabIs World.var? at *
  cases hg : Tryz.prog.globalNamed "internal/strconv.uint64pow10" with
  | none => rw [hg] at h2; cases h2
  | some k =>
    rw [hg] at h2
    simp only [Option.bind_some] at h2 ⊢
    cases hh : w.heap[k]? with
    | none => rw [hh] at h2; cases h2
    | some o2 => rw [o k o2 hh]; rw [hh] at h2; exact h2
theorem c254 {x : Nat} (w : World) (hx : x < 4294967296) (hT : TB w) : CC Tryz.prog 254 [U x].toArray w (fun r w' => r = I (Lib.ctz 32 x : Nat) ∧ Ext w w') :=
  CC.of_calls ((Any7.bits_TrailingZeros32 Tryz.lays28t x hx w (fun _ => hT.1)).mono fun e w' ⟨he, hw⟩ => ⟨_, he, rfl, hw ▸ Ext.refl _⟩)
theorem c176 {p : Nat} (w : World) : CC Tryz.prog 176 [I p].toArray w (fun r w' => r = U (ofF p) ∧ Ext w w') := by
  obtain ⟨w0, e0⟩ : ∃ w0, w0 = w := ⟨w, rfl⟩
  subst e0
  have H := Hd.start w0
  refine CC.of (N := 11) Tryz.func176 rfl rfl rfl ?_
  refine WC.seq ?_
  refine WC.region ?_
  refine l_rd rfl rfl (x_assign ev_c) ?_
  refine WL.nil ?_
  refine WC.seq ?_
  refine WC.seq ?_
  refine WC.region ?_
  refine l_rd rfl rfl (x_move (by conv => lhs; whnf)) ?_
  refine l_rdD rfl rfl (x_lss rfl rfl) (fun h4 => ?_) (fun h4 => ?_)
  ·
    exact absurd h4 (by omega)
  ·
    refine l_rd rfl rfl (x_move (by conv => lhs; whnf)) ?_
    refine l_gy (wantY rfl rfl rfl) rfl rfl (x_move (by conv => lhs; whnf)) ?_
    refine l_gyD (wantY rfl rfl rfl) rfl rfl (x_gtr rfl rfl) (fun h7 => ?_) (fun h7 => ?_)
    ·
      refine l_rd rfl rfl (x_pick0 rfl (by conv => lhs; whnf)) ?_
      refine WL.nil ?_
      refine WC.cond1 rfl ?_
      refine WC.seq ?_
      refine WC.region ?_
      refine l_rd rfl rfl (x_assign ev_c) ?_
      refine WL.nil ?_
      refine WC.ret ?_
      refine atRet ?_
      exact RetM.one rfl (by (conv => lhs; whnf); try rfl) (⟨by rw [ofF, if_neg (by omega)]; rfl, H.below 0 rfl⟩)
    ·
      refine l_rd rfl rfl (x_pick0 rfl (by conv => lhs; whnf)) ?_
      refine WL.nil ?_
      refine WC.cond0 rfl ?_
      refine WC.skip ?_
      refine WC.seq ?_
      refine WC.region ?_
      refine l_rd rfl rfl (x_move (by conv => lhs; whnf)) ?_
      refine l_rd rfl rfl (x_shlU rfl rfl (by omega)) ?_
      refine l_rd rfl rfl (x_assign (by conv => lhs; whnf)) ?_
      refine WL.nil ?_
      refine WC.ret ?_
      refine atRet ?_
      exact RetM.one rfl (by (conv => lhs; whnf); try rfl) (⟨by rw [ofF, if_pos (by omega)], H.below 0 rfl⟩)
theorem it253 {s : Sy} [NoEx s] {w0 : World} {b1 x : Nat} (hx : x < 4294967296) (hT : TB w0) : IT Tryz.prog s 253 [.pointer (some ⟨b1, 0, none⟩)] nE (bitsF x) (star (pt b1 (.cells #[U x] 221 (0, 0))) (fr w0)) (fun _ => PX (α := Nat) (fun _ => True) (fun y => [pt b1 (.cells #[U y] 221 (0, 0)), fr w0])) := by
  intro l J X w L hy H
  have H := Hd.unstarAt [_] H
  refine CC.of (N := 14) Tryz.func253 rfl rfl rfl ?_
  refine WC.block ?_
  refine WC.loopN (I := fun n ρ w => ∃ (pre : List Nat) (y : Nat), n = (bitsF y).length ∧ bitsF x = pre ++ bitsF y ∧ y < 4294967296 ∧ ρ 0 = .func (.yield l) #[] #[] ∧ ρ 1 = .pointer (some ⟨b1, 0, none⟩) ∧ Hd s w (J pre :: pt b1 (.cells #[U y] 221 (0, 0)) :: fr w0 :: L)) (n0 := _) (⟨[], x, rfl, rfl, hx, rfl, rfl, H⟩) ?_
  repeat clear H
  rintro n ρ w ⟨pre, y, hn, hb, hy2, h0, h1, H⟩
  refine WC.seq ?_
  refine WC.seq ?_
  refine WC.region ?_
  refine l_rd rfl rfl (x_load Tryz.underlying221 rfl h1 (H.cellL 1 rfl rfl)) ?_
  refine l_rdD rfl rfl (x_gtr rfl rfl) (fun h4 => ?_) (fun h4 => ?_)
  ·
    refine WL.nil ?_
    refine WC.cond1 rfl ?_
    refine WC.skip ?_
    refine WC.block ?_
    refine WC.seq ?_
    refine WC.seq ?_
    have hsp : bitsF x = pre ++ Lib.ctz 32 y :: bitsF (y &&& (y - 1)) := by rw [hb, bitsF_pos (show y ≠ 0 by omega)]
    refine WC.region ?_
    refine l_rd rfl rfl (x_move h0) ?_
    refine l_rd rfl rfl (x_load Tryz.underlying221 rfl h1 (H.cellL 1 rfl rfl)) ?_
    refine l_st rfl (s_callL cal254 (c254 _ hy2 (hT.old (H.old 2 rfl))) ?_)
    rintro _ w ⟨rfl, e1⟩
    have H := H.ext e1
    refine l_st rfl (s_yieldL rfl (hy pre (Lib.ctz 32 y) _ [I (Lib.ctz 32 y : Nat)] _ _ hsp (Hd.swp (Hd.pure rfl H))) ?_)
    rintro v w (⟨rfl, H⟩ | ⟨rfl, H⟩)
    ·
      refine l_rd rfl rfl (x_not rfl) ?_
      refine WL.nil ?_
      refine WC.cond0 rfl ?_
      refine WC.skip ?_
      refine WC.region ?_
      refine l_rd rfl rfl (x_load Tryz.underlying221 rfl h1 (H.cellL 1 rfl rfl)) ?_
      refine l_rd rfl rfl (x_load Tryz.underlying221 rfl h1 (H.cellL 1 rfl rfl)) ?_
      refine l_rd rfl rfl (x_subU1 rfl rfl (by omega) (by omega)) ?_
      refine l_rd rfl rfl (x_andU rfl rfl (by omega) (by omega)) ?_
      refine l_no (s_st 1 rfl ty221 h1 (by conv => lhs; whnf) rfl rfl H fun w H => ?_)
      refine WL.nil ?_
      exact ⟨rfl, (bitsF (y &&& (y - 1))).length, by rw [hn, bitsF_pos (show y ≠ 0 by omega)]; simp, pre ++ [Lib.ctz 32 y], y &&& (y - 1), rfl, by rw [hsp]; simp, by have := and_lt (show y ≠ 0 by omega); omega, h0, h1, H⟩
    ·
      refine l_rd rfl rfl (x_not rfl) ?_
      refine WL.nil ?_
      refine WC.cond1 rfl ?_
      refine WC.ret ?_
      refine atRet ?_
      exact RetM.none' rfl (.inr ⟨pre, _, _, hsp, Hd.swp (PX.mk y trivial (Hd.arrT [_, _, _] [1, 2, 0] (by decide) rfl (Hd.arrT [_, _, _] [0, 1, 2] (by decide) rfl H)))⟩)
  ·
    refine WL.nil ?_
    refine WC.cond0 rfl ?_
    refine WC.exit ?_
    refine atEnd ?_
    exact RetM.none' rfl (.inl (by rw [show bitsF x = pre from by rw [hb, show y = 0 by omega, bitsF_0, List.append_nil]]; exact Hd.swp (PX.mk y trivial (Hd.arrT [_, _, _] [1, 2, 0] (by decide) rfl (Hd.arrT [_, _, _] [0, 1, 2] (by decide) rfl H)))))
theorem c221 {s : Sy} [NoEx s] {L : List Hp} {x : Nat} (w : World) (H : Hd s w L) : CC Tryz.prog 221 [U x].toArray w (fun r w' => ∃ b1 : Nat, r = .func (.func 253) #[] #[.pointer (some ⟨b1, 0, none⟩)] ∧ Hd s w' (pt b1 (.cells #[U x] 221 (0, 0)) :: L)) := by
  refine CC.of (N := 4) Tryz.func221 rfl rfl rfl ?_
  refine WC.seq ?_
  refine WC.region ?_
  refine l_st rfl (s_box (by conv => lhs; whnf) H fun b1 w H => ?_)
  refine l_rd rfl rfl (x_assign ev_c) ?_
  refine WL.nil ?_
  refine WC.seq ?_
  refine WC.region ?_
  refine l_rd rfl rfl (x_makeFuncL) ?_
  refine l_rd rfl rfl (x_assign (by conv => lhs; whnf)) ?_
  refine WL.nil ?_
  refine WC.ret ?_
  refine atRet ?_
  exact RetM.one rfl (by (conv => lhs; whnf); try rfl) (⟨_, rfl, H⟩)
theorem c182 {s : Sy} [NoEx s] {L : List Hp} {w0 : World} {q : Nat} (w : World) (hx : q < 4294967296) (hT : TB w0) (H : Hd s w (fr w0 :: L)) : CC Tryz.prog 182 [U q].toArray w (fun r w' => Hd s w' (Sl r 3 1 (bitsF q).length ((bitsF q).map nI) :: fr w0 :: L)) := by
  refine CC.of (N := 12) Tryz.func182 rfl rfl rfl ?_
  refine WC.seq ?_
  refine WC.region ?_
  refine l_st rfl (s_alloc ty176 H fun b2 w H => ?_)
  refine WL.nil ?_
  refine WC.seq ?_
  refine WC.seq ?_
  refine WC.region ?_
  refine l_rd rfl rfl (x_move (by conv => lhs; whnf)) ?_
  refine l_st rfl (s_callL cal221 (c221 _ H) ?_)
  rintro _ w ⟨b1, rfl, H⟩
  refine WL.nil ?_
  refine WC.block ?_
  have H := Hd.starAt [_] (PX.mk (α := Value) (φ := fun _ => True) (A := fun v => [pt b2 (.cells #[v] 176 (0, 0)), Sl v 3 1 ([] : List Nat).length (([] : List Nat).map nI)]) (.slice none 0 0) trivial (Hd.arrT [_, _, _, _] [2, 0, 1, 3] (by decide) rfl (Hd.nil H 3 1)))
  refine WC.rangeFn (P := Tryz.prog) (caps := [.pointer (some ⟨b1, 0, none⟩)]) (E := nE) (xs := bitsF q) (A := star (pt b1 (.cells #[U q] 221 (0, 0))) (fr w0)) (B := fun _ => PX (α := Nat) (fun _ => True) (fun y => [pt b1 (.cells #[U y] 221 (0, 0)), fr w0])) (I := fun pre => PX (α := Value) (fun _ => True) (fun v => [pt b2 (.cells #[v] 176 (0, 0)), Sl v 3 1 pre.length (pre.map nI)])) (X := fun _ _ => fun _ => False) (L := L) rfl cal253 (by decide) (fun x vs h hv => by have : vs = _ := hv; rw [this]; rfl) (it253 hx hT) H ?_ ?_ ?_
  ·
    intro l pre x rest vs w L' L2 hxs hrec H
    obtain ⟨hh, _, hvs⟩ := H.fact_at 1 rfl
    have hvs : vs = [nI x] := hvs
    subst hvs
    refine WC.region ?_
    refine l_rd rfl rfl (x_assign (by conv => lhs; whnf)) ?_
    refine WL.nil ?_
    refine ⟨⟨[_, _], H⟩, fun w2 hw2 => ?_⟩
    clear hrec
    have H := Hd.arrT [_, _] [0] (by decide) rfl (hw2 [_, _] H)
    clear hw2
    obtain ⟨v0, -, H⟩ := PX.opn H
    obtain ⟨a0, c0, rfl⟩ := (H.sl 1 rfl).shape
    have hll : pre.length < 4294967296 := by have h1 := bitsF_len _ q (Nat.lt_succ_self _); rw [hxs] at h1; simp only [List.length_append] at h1; omega
    refine WC.block ?_
    refine WC.region ?_
    refine l_rd rfl rfl (x_load Tryz.underlying176 rfl rfl (H.cellL 0 rfl rfl)) ?_
    refine l_rd rfl rfl (x_move (by conv => lhs; whnf)) ?_
    refine l_st rfl (s_build1 Tryz.underlying176 ty3 rfl (by conv => lhs; whnf) rfl H fun b9 w H => ?_)
    refine l_st rfl (s_append Tryz.underlying176 ty3 rfl (by decide) (by decide) rfl 2 rfl rfl rfl (H.sl 0 rfl) (by simp [Value.oneCell']) (by omega) H fun v10 w H => ?_)
    obtain ⟨a10, c10, rfl⟩ := (H.sl 2 rfl).shape
    refine l_no (s_st 1 rfl ty176 rfl (by conv => lhs; whnf) rfl rfl H fun w H => ?_)
    refine WL.nil ?_
    exact PX.mk _ trivial (by rw [len_snoc, List.map_append]; exact Hd.arrT [_, _, _] [1, 2] (by decide) rfl H)
  ·
    intro w m H
    obtain ⟨v0, -, H⟩ := PX.opn H
    obtain ⟨a0, c0, rfl⟩ := (H.sl 1 rfl).shape
    have H := Hd.arrT [_, _, _] [2, 0, 1] (by decide) rfl H
    obtain ⟨y9, -, H⟩ := PX.opn H
    refine WC.seq ?_
    refine WC.region ?_
    refine l_rd rfl rfl (x_load Tryz.underlying176 rfl rfl (H.cellL 2 rfl rfl)) ?_
    refine l_no (s_st 2 rfl ty176 rfl (by conv => lhs; whnf) rfl rfl H fun w H => ?_)
    refine WL.nil ?_
    refine WC.ret ?_
    refine atRet ?_
    refine RetM.mark H (i := 4) rfl (fun w H => ?_)
    exact RetM.cell1 rfl (by (conv => lhs; whnf); try rfl) Tryz.underlying176 rfl (H.cellL 2 rfl rfl) (Hd.arrT [_, _, _, _, _] [3, 1] (by decide) rfl H)
  ·
    intro w m c pre x rest hxs H
    obtain ⟨hh, _, hF⟩ := H.fact_at 0 rfl
    exact hF.elim
end Go.Proofs.YteibnmkikdbndaaGreatDoor
