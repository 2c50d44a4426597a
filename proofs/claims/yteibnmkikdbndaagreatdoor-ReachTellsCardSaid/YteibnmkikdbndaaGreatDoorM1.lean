/-
  What functions of this seat do: contracts, proved by walks, and the plain laws that they need; each with the conditions that it names.
-/
import Derived.Test.YteibnmkikdbndaaGreatDoorE3
import Derived.Test.YteibnmkikdbndaaGreatDoorProg
set_option linter.unusedVariables false
set_option linter.unusedSimpArgs false
namespace Go.Proofs.YteibnmkikdbndaaGreatDoor
open Go Go.RowKit KE Go.Proofs
theorem mixed : Tryz.prog.follows .mixedOrders = true := by kernel_rfl
abbrev S (x : ByteArray) : Value := .string x
abbrev I (x : Int) : Value := .int .i64 x
instance : LawfulBEq ByteArray where
  eq_of_beq h := by rw [ba_beq] at h; exact of_decide_eq_true h
  rfl {a} := by rw [ba_beq]; exact decide_eq_true rfl
structure Pr where
  key : ByteArray
  kind : Int
  num : Int
  text : ByteArray
  deriving DecidableEq
abbrev prC (p : Pr) : List Value := [S p.key, I p.kind, I p.num, S p.text]
theorem prC_len (p : Pr) : (prC p).length = 4 := rfl
structure Ed where
  src : ByteArray
  dst : ByteArray
  lab : ByteArray
  time : Int
  pv : Value
abbrev edC (e : Ed) : List Value := [S e.src, S e.dst, S e.lab, I e.time, e.pv]
theorem edC_len (e : Ed) : (edC e).length = 5 := rfl
structure Eg where
  src : ByteArray
  dst : ByteArray
  lab : ByteArray
  time : Int
  props : List Pr
  deriving DecidableEq
def EdR (w : World) (e : Ed) (x : Eg) : Prop := e.src = x.src ∧ e.dst = x.dst ∧ e.lab = x.lab ∧ e.time = x.time ∧ RdS w e.pv 4 prC x.props
theorem EdR.old {w w' : World} {e : Ed} {x : Eg} (h : EdR w e x) (o : Old w w') : EdR w' e x := ⟨h.1, h.2.1, h.2.2.1, h.2.2.2.1, o.rdS h.2.2.2.2⟩
theorem eg_iff {x y : Eg} : x = y ↔ x.src = y.src ∧ x.dst = y.dst ∧ x.lab = y.lab ∧ x.time = y.time ∧ x.props = y.props := by
  cases x; cases y; simp
def EdL (w : World) (v : Value) (xs : List Eg) : Prop := ∃ es : List Ed, RdS w v 5 edC es ∧ es.length = xs.length ∧ ∀ (i : Nat) (e : Ed) (x : Eg), es[i]? = some e → xs[i]? = some x → EdR w e x
theorem EdL.shape {w : World} {v : Value} {xs : List Eg} (h : EdL w v xs) : ∃ a c, v = .slice a xs.length c := by
  obtain ⟨es, h1, h2, h3⟩ := h; rw [← h2]; exact h1.shape
theorem EdL.le {w : World} {v : Value} {xs : List Eg} (h : EdL w v xs) : xs.length ≤ 140737488355328 := by
  obtain ⟨es, h1, h2, h3⟩ := h; rw [← h2]; exact h1.le
theorem EdL.old {w w' : World} {v : Value} {xs : List Eg} (h : EdL w v xs) (o : Old w w') : EdL w' v xs := by
  obtain ⟨es, h1, h2, h3⟩ := h; exact ⟨es, o.rdS h1, h2, fun i e x a b => (h3 i e x a b).old o⟩
theorem EdL.el {w : World} {a : Option Addr} {n c i : Nat} {xs : List Eg} {x : Eg} (h : EdL w (.slice a n c) xs) (hx : xs[i]? = some x) : ∃ b o e, a = some ⟨b, o, none⟩ ∧ (∀ j u, (edC e)[j]? = some u → w.cell? ⟨b, o + i * 5 + j, none⟩ = some u) ∧ EdR w e x := by
  obtain ⟨es, h1, h2, h3⟩ := h
  obtain ⟨e, he⟩ := lt_get (show i < es.length by have := (List.getElem?_eq_some_iff.1 hx).1; omega)
  obtain ⟨b, o, ha, hc⟩ := h1.el edC_len he
  exact ⟨b, o, e, ha, hc, h3 i e x he hx⟩
theorem ty3 : Ty Tryz.prog 3 (.int .i64 0) 1 8 := Ty.of (by kernel_rfl)
theorem ty9 : Ty Tryz.prog 9 (.string ⟨#[]⟩) 1 16 := Ty.of (by kernel_rfl)
theorem ty33 : Ty Tryz.prog 33 (.slice none 0 0) 1 24 := Ty.of (by kernel_rfl)
theorem ty183 : Ty Tryz.prog 183 (.int .i64 0) 1 8 := Ty.of (by kernel_rfl)
theorem ty185 : Ty Tryz.prog 185 (.agg #[(.int .i64 0), (.int .i64 0), (.string ⟨#[]⟩)]) 3 32 := Ty.of (by kernel_rfl)
theorem ty187 : Ty Tryz.prog 187 (.agg #[(.string ⟨#[]⟩), (.int .i64 0), (.int .i64 0), (.string ⟨#[]⟩)]) 4 48 := Ty.of (by kernel_rfl)
theorem cal97 : Cal Tryz.prog 97 := ⟨_, Tryz.func97, rfl, by decide⟩
theorem cal143 : Cal Tryz.prog 143 := ⟨_, Tryz.func143, rfl, by decide⟩
theorem cal144 : Cal Tryz.prog 144 := ⟨_, Tryz.func144, rfl, by decide⟩
theorem cal145 : Cal Tryz.prog 145 := ⟨_, Tryz.func145, rfl, by decide⟩
theorem cal146 : Cal Tryz.prog 146 := ⟨_, Tryz.func146, rfl, by decide⟩
theorem cal163 : Cal Tryz.prog 163 := ⟨_, Tryz.func163, rfl, by decide⟩
theorem cal164 : Cal Tryz.prog 164 := ⟨_, Tryz.func164, rfl, by decide⟩
theorem cal172 : Cal Tryz.prog 172 := ⟨_, Tryz.func172, rfl, by decide⟩
theorem cal194 : Cal Tryz.prog 194 := ⟨_, Tryz.func194, rfl, by decide⟩
theorem cal195 : Cal Tryz.prog 195 := ⟨_, Tryz.func195, rfl, by decide⟩
theorem cal196 : Cal Tryz.prog 196 := ⟨_, Tryz.func196, rfl, by decide⟩
theorem cal197 : Cal Tryz.prog 197 := ⟨_, Tryz.func197, rfl, by decide⟩
theorem cal235 : Cal Tryz.prog 235 := ⟨_, Tryz.func235, rfl, by decide⟩
theorem cal236 : Cal Tryz.prog 236 := ⟨_, Tryz.func236, rfl, by decide⟩
theorem bl_irr : ∀ a : List UInt8, Op.bytesLess a a = false
  | [] => rfl
  | x :: a => by simp [Op.bytesLess, bl_irr a]
theorem bl_tri : ∀ a b : List UInt8, Op.bytesLess a b = true ∨ a = b ∨ Op.bytesLess b a = true
  | [], [] => .inr (.inl rfl)
  | [], _ :: _ => .inl rfl
  | _ :: _, [] => .inr (.inr rfl)
  | x :: a, y :: b => by
    simp only [Op.bytesLess]
    rcases Nat.lt_trichotomy x.toNat y.toNat with h | h | h
    · left; simp [UInt8.lt_iff_toNat_lt, h]
    · have e : x = y := UInt8.toNat_inj.1 h
      subst e
      rcases bl_tri a b with h1 | h1 | h1 <;> simp [h1]
    · right; right; simp [UInt8.lt_iff_toNat_lt, h]
theorem bl_trans : ∀ a b c : List UInt8, Op.bytesLess a b = true → Op.bytesLess b c = true → Op.bytesLess a c = true
  | [], [], _, h, _ => by simp [Op.bytesLess] at h
  | [], _ :: _, [], _, h => by simp [Op.bytesLess] at h
  | [], _ :: _, _ :: _, _, _ => rfl
  | _ :: _, [], _, h, _ => by simp [Op.bytesLess] at h
  | _ :: _, _ :: _, [], _, h => by simp [Op.bytesLess] at h
  | x :: a, y :: b, z :: c, h1, h2 => by
    simp [Op.bytesLess, UInt8.lt_iff_toNat_lt] at h1 h2 ⊢
    rcases h1 with h1 | ⟨rfl, h1⟩
    · rcases h2 with h2 | ⟨rfl, h2⟩
      · left; omega
      · left; exact h1
    · rcases h2 with h2 | ⟨rfl, h2⟩
      · left; exact h2
      · right; exact ⟨rfl, bl_trans a b c h1 h2⟩
theorem sLt_irr (a : ByteArray) : ¬ sLt a a := by simp [sLt, bl_irr]
theorem toList_inj {a b : ByteArray} (h : a.toList = b.toList) : a = b := by
  rw [toList_data, toList_data] at h
  exact ByteArray.ext (Array.ext' h)
theorem sLt_tri (a b : ByteArray) : sLt a b ∨ a = b ∨ sLt b a := by
  rcases bl_tri a.toList b.toList with h | h | h
  · exact .inl h
  · exact .inr (.inl (toList_inj h))
  · exact .inr (.inr h)
theorem sLt_trans {a b c : ByteArray} (h1 : sLt a b) (h2 : sLt b c) : sLt a c := bl_trans _ _ _ h1 h2
theorem sLt_asym {a b : ByteArray} (h1 : sLt a b) : ¬ sLt b a := fun h2 => sLt_irr a (sLt_trans h1 h2)
theorem sLt_not {a b : ByteArray} : ¬ (sLt b a ∨ b = a) ↔ sLt a b := by
  constructor
  · intro h
    rcases sLt_tri a b with h1 | h1 | h1
    · exact h1
    · exact absurd (.inr h1.symm) h
    · exact absurd (.inl h1) h
  · rintro h (h1 | h1)
    · exact sLt_asym h h1
    · subst h1; exact sLt_irr _ h
theorem sLt_empty {a : ByteArray} (h : 1 ≤ a.size) : sLt ⟨#[]⟩ a := by
  rcases sLt_tri ⟨#[]⟩ a with h1 | h1 | h1
  · exact h1
  · subst h1; exact absurd h (by decide)
  · exfalso
    unfold sLt at h1
    have e : (⟨#[]⟩ : ByteArray).toList = [] := by rw [toList_data]
    rw [e] at h1
    cases ha : a.toList <;> rw [ha] at h1 <;> simp [Op.bytesLess] at h1
def cmpI (a b : Int) : Int := if a < b then -1 else if b < a then 1 else 0
def cmpS (a b : ByteArray) : Int := if sLt a b then -1 else if ¬ (sLt a b ∨ a = b) then 1 else 0
def orI : List Int → Int
  | [] => 0
  | x :: xs => if x ≠ 0 then x else orI xs
theorem or_drop {xs : List Int} {k : Nat} {x : Int} (h : xs[k]? = some x) : orI (xs.drop k) = if x ≠ 0 then x else orI (xs.drop (k + 1)) := by
  obtain ⟨hk, e⟩ := List.getElem?_eq_some_iff.1 h
  rw [List.drop_eq_getElem_cons hk, e]; rfl
theorem c172 {x : ByteArray} (w : World) : CC Tryz.prog 172 [S x].toArray w (fun r w' => r = .bool false ∧ Ext w w') := by
  obtain ⟨w0, e0⟩ : ∃ w0, w0 = w := ⟨w, rfl⟩
  subst e0
  have H := Hd.start w0
  refine CC.of (N := 6) Tryz.func172 rfl rfl rfl ?_
  refine WC.seq ?_
  refine WC.region ?_
  refine l_rd rfl rfl (x_assign ev_c) ?_
  refine WL.nil ?_
  refine WC.seq ?_
  refine WC.region ?_
  refine l_rd rfl rfl (x_move (by conv => lhs; whnf)) ?_
  refine l_rd rfl rfl (x_move (by conv => lhs; whnf)) ?_
  refine l_rdD rfl rfl (x_neqS rfl rfl) (fun h5 => ?_) (fun h5 => ?_)
  ·
    exact absurd rfl h5
  ·
    refine l_rd rfl rfl (x_assign (by conv => lhs; whnf)) ?_
    refine WL.nil ?_
    refine WC.ret ?_
    refine atRet ?_
    exact RetM.one rfl (by (conv => lhs; whnf); try rfl) (⟨rfl, H.below 0 rfl⟩)
theorem c121 {x y : ByteArray} (w : World) : CC Tryz.prog 121 [S x, S y].toArray w (fun r w' => r = I (cmpS x y) ∧ Ext w w') := by
  obtain ⟨w0, e0⟩ : ∃ w0, w0 = w := ⟨w, rfl⟩
  subst e0
  have H := Hd.start w0
  refine CC.of (N := 20) Tryz.func121 rfl rfl rfl ?_
  refine WC.seq ?_
  refine WC.region ?_
  refine l_rd rfl rfl (x_assign ev_c) ?_
  refine WL.nil ?_
  refine WC.seq ?_
  refine WC.region ?_
  refine l_rd rfl rfl (x_move (by conv => lhs; whnf)) ?_
  refine l_st rfl (s_callL cal172 (c172 _) ?_)
  rintro _ w ⟨rfl, e1⟩
  have H := H.ext e1
  refine l_rd rfl rfl (x_assign (by conv => lhs; whnf)) ?_
  refine WL.nil ?_
  refine WC.seq ?_
  refine WC.region ?_
  refine l_rd rfl rfl (x_move (by conv => lhs; whnf)) ?_
  refine l_st rfl (s_callL cal172 (c172 _) ?_)
  rintro _ w ⟨rfl, e1⟩
  have H := H.ext e1
  refine l_rd rfl rfl (x_assign (by conv => lhs; whnf)) ?_
  refine WL.nil ?_
  refine WC.seq ?_
  refine WC.seq ?_
  refine WC.region ?_
  refine l_rd rfl rfl (x_move (by conv => lhs; whnf)) ?_
  refine WL.nil ?_
  refine WC.cond0 rfl ?_
  refine WC.skip ?_
  refine WC.seq ?_
  refine WC.seq ?_
  refine WC.region ?_
  refine l_rd rfl rfl (x_move (by conv => lhs; whnf)) ?_
  refine WL.nil ?_
  refine WC.cond0 rfl ?_
  refine WC.skip ?_
  refine WC.seq ?_
  refine WC.seq ?_
  refine WC.region ?_
  refine l_rd rfl rfl (x_move (by conv => lhs; whnf)) ?_
  refine l_rd rfl rfl (x_move (by conv => lhs; whnf)) ?_
  refine l_rdD rfl rfl (x_lssS rfl rfl) (fun h16 => ?_) (fun h16 => ?_)
  ·
    refine WL.nil ?_
    refine WC.cond1 rfl ?_
    refine WC.seq ?_
    refine WC.region ?_
    refine l_rd rfl rfl (x_assign ev_c) ?_
    refine WL.nil ?_
    refine WC.ret ?_
    refine atRet ?_
    exact RetM.one rfl (by (conv => lhs; whnf); try rfl) (⟨by rw [cmpS, if_pos h16], H.below 0 rfl⟩)
  ·
    refine WL.nil ?_
    refine WC.cond0 rfl ?_
    refine WC.skip ?_
    refine WC.seq ?_
    refine WC.seq ?_
    refine WC.region ?_
    refine l_rd rfl rfl (x_move (by conv => lhs; whnf)) ?_
    refine l_rd rfl rfl (x_move (by conv => lhs; whnf)) ?_
    refine l_rdD rfl rfl (x_gtrS rfl rfl) (fun h19 => ?_) (fun h19 => ?_)
    ·
      refine WL.nil ?_
      refine WC.cond1 rfl ?_
      refine WC.seq ?_
      refine WC.region ?_
      refine l_rd rfl rfl (x_assign ev_c) ?_
      refine WL.nil ?_
      refine WC.ret ?_
      refine atRet ?_
      exact RetM.one rfl (by (conv => lhs; whnf); try rfl) (⟨by rw [cmpS, if_neg h16, if_pos h19], H.below 0 rfl⟩)
    ·
      refine WL.nil ?_
      refine WC.cond0 rfl ?_
      refine WC.skip ?_
      refine WC.seq ?_
      refine WC.region ?_
      refine l_rd rfl rfl (x_assign ev_c) ?_
      refine WL.nil ?_
      refine WC.ret ?_
      refine atRet ?_
      exact RetM.one rfl (by (conv => lhs; whnf); try rfl) (⟨by rw [cmpS, if_neg h16, if_neg h19], H.below 0 rfl⟩)
theorem c120 {v : Value} {xs : List Int} (w : World) (hx : RdL w v I xs) : CC Tryz.prog 120 [v].toArray w (fun r w' => r = I (orI xs) ∧ Ext w w') := by
  obtain ⟨w0, e0⟩ : ∃ w0, w0 = w := ⟨w, rfl⟩
  subst e0
  have H := Hd.start w0
  obtain ⟨a, c, rfl⟩ := hx.shape
  have hle := hx.le
  refine CC.of (N := 18) Tryz.func120 rfl rfl rfl ?_
  refine WC.seq ?_
  refine WC.region ?_
  refine l_rd rfl rfl (x_assign ev_c) ?_
  refine WL.nil ?_
  refine WC.seq ?_
  refine WC.region ?_
  refine l_rd rfl rfl (x_assign ev_c) ?_
  refine WL.nil ?_
  refine WC.seq ?_
  refine WC.seq ?_
  refine WC.region ?_
  refine l_rd rfl rfl (x_move (by conv => lhs; whnf)) ?_
  refine l_rd rfl rfl (x_lenSlice Tryz.underlying176 rfl rfl) ?_
  refine l_rd rfl rfl (x_move ev_c) ?_
  refine WL.nil ?_
  refine WC.block ?_
  refine WC.loop (fun ρ ds w => ∃ k : Nat, k ≤ xs.length ∧ orI (xs.drop k) = orI xs ∧ ρ 8 = I k ∧ ρ 7 = I xs.length ∧ ρ 6 = .slice a xs.length c ∧ ρ 3 = I 0 ∧ ds = [] ∧ Hd (sy w0) w [fr w0]) (fun ρ w => xs.length - (match ρ 8 with | .int _ k => k.toNat | _ => 0)) (⟨0, Nat.zero_le _, rfl, rfl, rfl, rfl, rfl, rfl, H⟩) ?_
  repeat clear H
  rintro ρ ds w ⟨k, hk, he, h8, h7, h6, h3, rfl, H⟩
  refine WC.seq ?_
  refine WC.region ?_
  refine l_rdD rfl rfl (x_lss h8 h7) (fun h9 => ?_) (fun h9 => ?_)
  ·
    refine WL.nil ?_
    refine WC.seq ?_
    refine WC.cond1 rfl ?_
    refine WC.skip ?_
    refine WC.seq ?_
    refine WC.block ?_
    refine WC.seq ?_
    obtain ⟨x, hxk⟩ := lt_get (show k < xs.length by omega)
    obtain ⟨b1, o1, rfl, hc1⟩ := hx.el hxk
    refine WC.region ?_
    refine l_rd rfl rfl (x_indexAddr Tryz.underlying176 ty3 h6 h8 (by omega) (by omega)) ?_
    refine l_rd rfl rfl (x_load Tryz.underlying3 rfl rfl ((H.old 0 rfl).cell hc1)) ?_
    refine l_rd rfl rfl (x_assign (by conv => lhs; whnf)) ?_
    refine WL.nil ?_
    refine WC.seq ?_
    refine WC.region ?_
    refine l_rd rfl rfl (x_move (by conv => lhs; whnf)) ?_
    refine l_rd rfl rfl (x_move h3) ?_
    refine l_rdD rfl rfl (x_neq rfl rfl) (fun h14 => ?_) (fun h14 => ?_)
    ·
      refine WL.nil ?_
      refine WC.cond1 rfl ?_
      refine WC.seq ?_
      refine WC.region ?_
      refine l_rd rfl rfl (x_move (by conv => lhs; whnf)) ?_
      refine l_rd rfl rfl (x_assign (by conv => lhs; whnf)) ?_
      refine WL.nil ?_
      refine WC.ret ?_
      refine atRet ?_
      exact RetM.one rfl (by (conv => lhs; whnf); try rfl) (⟨by rw [← he, or_drop hxk, if_pos h14], H.below 0 rfl⟩)
    ·
      refine WL.nil ?_
      refine WC.cond0 rfl ?_
      refine WC.skip ?_
      refine WC.region ?_
      refine l_rd rfl rfl (x_add h8 rfl (by omega) (by omega)) ?_
      refine l_rd rfl rfl (x_move (by conv => lhs; whnf)) ?_
      refine WL.nil ?_
      refine WC.again (⟨k + 1, by omega, by rw [← he, or_drop hxk, if_neg h14], rfl, h7, h6, h3, rfl, H⟩) (by show _ - _ < _ - _; rw [h8]; show xs.length - ((k : Int) + 1).toNat < xs.length - (k : Int).toNat; omega)
  ·
    refine WL.nil ?_
    refine WC.seq ?_
    refine WC.cond0 rfl ?_
    refine WC.exit ?_
    refine WC.seq ?_
    refine WC.region ?_
    refine l_rd rfl rfl (x_move h3) ?_
    refine l_rd rfl rfl (x_assign (by conv => lhs; whnf)) ?_
    refine WL.nil ?_
    refine WC.ret ?_
    refine atRet ?_
    exact RetM.one rfl (by (conv => lhs; whnf); try rfl) (⟨by rw [← he, List.drop_of_length_le (by omega)]; rfl, H.below 0 rfl⟩)
def sgn (x : Int) : Prop := (97 ≤ x ∧ x ≤ 122) ∨ (48 ≤ x ∧ x ≤ 57) ∨ x = 95
instance (x : Int) : Decidable (sgn x) := by unfold sgn; infer_instance
def vtx (x : ByteArray) : Prop := (∀ (i : Nat) (h : i < x.size), sgn ((x[i].toNat : Nat) : Int)) ∧ 1 ≤ x.size ∧ x.size ≤ 20
noncomputable instance (x : ByteArray) : Decidable (vtx x) := Classical.propDecidable _
theorem ne_size {x : ByteArray} (h : x ≠ ⟨#[]⟩) : 1 ≤ x.size := by
  rcases Nat.eq_zero_or_pos x.size with h0 | h0
  · exact absurd (ByteArray.ext (Array.eq_empty_of_size_eq_zero h0)) h
  · exact h0
theorem size_ne {x : ByteArray} (h : x = ⟨#[]⟩) : x.size = 0 := by subst h; rfl
theorem c164 {x : Int} (w : World) : CC Tryz.prog 164 [.int .u8 x].toArray w (fun r w' => r = .bool (decide (97 ≤ x ∧ x ≤ 122)) ∧ Ext w w') := by
  obtain ⟨w0, e0⟩ : ∃ w0, w0 = w := ⟨w, rfl⟩
  subst e0
  have H := Hd.start w0
  refine CC.of (N := 9) Tryz.func164 rfl rfl rfl ?_
  refine WC.seq ?_
  refine WC.region ?_
  refine l_rd rfl rfl (x_assign ev_c) ?_
  refine WL.nil ?_
  refine WC.seq ?_
  refine WC.region ?_
  refine l_rd rfl rfl (x_move (by conv => lhs; whnf)) ?_
  refine l_rdD rfl rfl (x_geq rfl rfl) (fun h4 => ?_) (fun h4 => ?_)
  ·
    refine l_rd rfl rfl (x_move (by conv => lhs; whnf)) ?_
    refine l_gy (wantY rfl rfl rfl) rfl rfl (x_move (by conv => lhs; whnf)) ?_
    refine l_gyD (wantY rfl rfl rfl) rfl rfl (x_leq rfl rfl) (fun h7 => ?_) (fun h7 => ?_)
    ·
      refine l_rd rfl rfl (x_pick1 rfl (by conv => lhs; whnf)) ?_
      refine l_rd rfl rfl (x_assign (by conv => lhs; whnf)) ?_
      refine WL.nil ?_
      refine WC.ret ?_
      refine atRet ?_
      exact RetM.one rfl (by (conv => lhs; whnf); try rfl) (⟨by rw [decide_eq_true (by omega)], H.below 0 rfl⟩)
    ·
      refine l_rd rfl rfl (x_pick1 rfl (by conv => lhs; whnf)) ?_
      refine l_rd rfl rfl (x_assign (by conv => lhs; whnf)) ?_
      refine WL.nil ?_
      refine WC.ret ?_
      refine atRet ?_
      exact RetM.one rfl (by (conv => lhs; whnf); try rfl) (⟨by rw [decide_eq_false (by omega)], H.below 0 rfl⟩)
  ·
    refine l_rd rfl rfl (x_move (by conv => lhs; whnf)) ?_
    refine l_gn (wantN rfl rfl rfl) rfl ?_
    refine l_gn (wantN rfl rfl rfl) rfl ?_
    refine l_rd rfl rfl (x_pick0 rfl ev_c) ?_
    refine l_rd rfl rfl (x_assign (by conv => lhs; whnf)) ?_
    refine WL.nil ?_
    refine WC.ret ?_
    refine atRet ?_
    exact RetM.one rfl (by (conv => lhs; whnf); try rfl) (⟨by rw [decide_eq_false (by omega)], H.below 0 rfl⟩)
theorem c194 {x : Int} (w : World) : CC Tryz.prog 194 [.int .i32 x].toArray w (fun r w' => r = .bool (decide (97 ≤ x ∧ x ≤ 122)) ∧ Ext w w') := by
  obtain ⟨w0, e0⟩ : ∃ w0, w0 = w := ⟨w, rfl⟩
  subst e0
  have H := Hd.start w0
  refine CC.of (N := 9) Tryz.func194 rfl rfl rfl ?_
  refine WC.seq ?_
  refine WC.region ?_
  refine l_rd rfl rfl (x_assign ev_c) ?_
  refine WL.nil ?_
  refine WC.seq ?_
  refine WC.region ?_
  refine l_rd rfl rfl (x_move (by conv => lhs; whnf)) ?_
  refine l_rdD rfl rfl (x_geq rfl rfl) (fun h4 => ?_) (fun h4 => ?_)
  ·
    refine l_rd rfl rfl (x_move (by conv => lhs; whnf)) ?_
    refine l_gy (wantY rfl rfl rfl) rfl rfl (x_move (by conv => lhs; whnf)) ?_
    refine l_gyD (wantY rfl rfl rfl) rfl rfl (x_leq rfl rfl) (fun h7 => ?_) (fun h7 => ?_)
    ·
      refine l_rd rfl rfl (x_pick1 rfl (by conv => lhs; whnf)) ?_
      refine l_rd rfl rfl (x_assign (by conv => lhs; whnf)) ?_
      refine WL.nil ?_
      refine WC.ret ?_
      refine atRet ?_
      exact RetM.one rfl (by (conv => lhs; whnf); try rfl) (⟨by rw [decide_eq_true (by omega)], H.below 0 rfl⟩)
    ·
      refine l_rd rfl rfl (x_pick1 rfl (by conv => lhs; whnf)) ?_
      refine l_rd rfl rfl (x_assign (by conv => lhs; whnf)) ?_
      refine WL.nil ?_
      refine WC.ret ?_
      refine atRet ?_
      exact RetM.one rfl (by (conv => lhs; whnf); try rfl) (⟨by rw [decide_eq_false (by omega)], H.below 0 rfl⟩)
  ·
    refine l_rd rfl rfl (x_move (by conv => lhs; whnf)) ?_
    refine l_gn (wantN rfl rfl rfl) rfl ?_
    refine l_gn (wantN rfl rfl rfl) rfl ?_
    refine l_rd rfl rfl (x_pick0 rfl ev_c) ?_
    refine l_rd rfl rfl (x_assign (by conv => lhs; whnf)) ?_
    refine WL.nil ?_
    refine WC.ret ?_
    refine atRet ?_
    exact RetM.one rfl (by (conv => lhs; whnf); try rfl) (⟨by rw [decide_eq_false (by omega)], H.below 0 rfl⟩)
theorem c163 {x : Int} (w : World) : CC Tryz.prog 163 [.int .u8 x].toArray w (fun r w' => r = .bool (decide (sgn x)) ∧ Ext w w') := by
  obtain ⟨w0, e0⟩ : ∃ w0, w0 = w := ⟨w, rfl⟩
  subst e0
  have H := Hd.start w0
  refine CC.of (N := 17) Tryz.func163 rfl rfl rfl ?_
  refine WC.seq ?_
  refine WC.region ?_
  refine l_rd rfl rfl (x_assign ev_c) ?_
  refine WL.nil ?_
  refine WC.seq ?_
  refine WC.region ?_
  refine l_rd rfl rfl (x_move (by conv => lhs; whnf)) ?_
  refine l_st rfl (s_callL cal164 (c164 _) ?_)
  rintro r w ⟨hr1, e1⟩
  have H := H.ext e1
  by_cases h4 : 97 ≤ x ∧ x ≤ 122
  ·
    obtain rfl : r = .bool true := by rw [hr1, decide_eq_true h4]
    refine l_rd rfl rfl (x_move (by conv => lhs; whnf)) ?_
    refine l_gn (wantN rfl rfl rfl) rfl ?_
    refine l_gn (wantN rfl rfl rfl) rfl ?_
    refine l_gn (wantN rfl rfl rfl) rfl ?_
    refine l_gn (wantU rfl rfl rfl) rfl ?_
    refine l_gn (wantU rfl rfl rfl) rfl ?_
    refine l_gn (wantN rfl rfl rfl) rfl ?_
    refine l_rd rfl rfl (x_pick1 rfl ev_c) ?_
    refine l_rd rfl rfl (x_move (by conv => lhs; whnf)) ?_
    refine l_gn (wantN rfl rfl rfl) rfl ?_
    refine l_gn (wantN rfl rfl rfl) rfl ?_
    refine l_rd rfl rfl (x_pick1 rfl ev_c) ?_
    refine l_rd rfl rfl (x_assign (by conv => lhs; whnf)) ?_
    refine WL.nil ?_
    refine WC.ret ?_
    refine atRet ?_
    exact RetM.one rfl (by (conv => lhs; whnf); try rfl) (⟨by rw [decide_eq_true (by unfold sgn; omega)], H.below 0 rfl⟩)
  ·
    obtain rfl : r = .bool false := by rw [hr1, decide_eq_false h4]
    refine l_rd rfl rfl (x_move (by conv => lhs; whnf)) ?_
    refine l_gy (wantY rfl rfl rfl) rfl rfl (x_move (by conv => lhs; whnf)) ?_
    refine l_gyD (wantY rfl rfl rfl) rfl rfl (x_geq rfl rfl) (fun h7 => ?_) (fun h7 => ?_)
    ·
      refine l_gy (wantY rfl rfl rfl) rfl rfl (x_move (by conv => lhs; whnf)) ?_
      refine l_gy (wantY rfl rfl rfl) rfl rfl (x_move (by conv => lhs; whnf)) ?_
      refine l_gyD (wantY rfl rfl rfl) rfl rfl (x_leq rfl rfl) (fun h10 => ?_) (fun h10 => ?_)
      ·
        refine l_gy (wantY rfl rfl rfl) rfl rfl (x_pick1 rfl (by conv => lhs; whnf)) ?_
        refine l_rd rfl rfl (x_pick0 rfl (by conv => lhs; whnf)) ?_
        refine l_rd rfl rfl (x_move (by conv => lhs; whnf)) ?_
        refine l_gn (wantN rfl rfl rfl) rfl ?_
        refine l_gn (wantN rfl rfl rfl) rfl ?_
        refine l_rd rfl rfl (x_pick1 rfl ev_c) ?_
        refine l_rd rfl rfl (x_assign (by conv => lhs; whnf)) ?_
        refine WL.nil ?_
        refine WC.ret ?_
        refine atRet ?_
        exact RetM.one rfl (by (conv => lhs; whnf); try rfl) (⟨by rw [decide_eq_true (by unfold sgn; omega)], H.below 0 rfl⟩)
      ·
        refine l_gy (wantY rfl rfl rfl) rfl rfl (x_pick1 rfl (by conv => lhs; whnf)) ?_
        refine l_rd rfl rfl (x_pick0 rfl (by conv => lhs; whnf)) ?_
        refine l_rd rfl rfl (x_move (by conv => lhs; whnf)) ?_
        refine l_gy (wantY rfl rfl rfl) rfl rfl (x_move (by conv => lhs; whnf)) ?_
        refine l_gyD (wantY rfl rfl rfl) rfl rfl (x_eql rfl rfl) (fun h15 => ?_) (fun h15 => ?_)
        ·
          refine l_rd rfl rfl (x_pick0 rfl (by conv => lhs; whnf)) ?_
          refine l_rd rfl rfl (x_assign (by conv => lhs; whnf)) ?_
          refine WL.nil ?_
          refine WC.ret ?_
          refine atRet ?_
          exact RetM.one rfl (by (conv => lhs; whnf); try rfl) (⟨by rw [decide_eq_true (by unfold sgn; omega)], H.below 0 rfl⟩)
        ·
          refine l_rd rfl rfl (x_pick0 rfl (by conv => lhs; whnf)) ?_
          refine l_rd rfl rfl (x_assign (by conv => lhs; whnf)) ?_
          refine WL.nil ?_
          refine WC.ret ?_
          refine atRet ?_
          exact RetM.one rfl (by (conv => lhs; whnf); try rfl) (⟨by rw [decide_eq_false (by unfold sgn; omega)], H.below 0 rfl⟩)
    ·
      refine l_gy (wantY rfl rfl rfl) rfl rfl (x_move (by conv => lhs; whnf)) ?_
      refine l_gn (wantN rfl rfl rfl) rfl ?_
      refine l_gn (wantN rfl rfl rfl) rfl ?_
      refine l_gy (wantY rfl rfl rfl) rfl rfl (x_pick0 rfl ev_c) ?_
      refine l_rd rfl rfl (x_pick0 rfl (by conv => lhs; whnf)) ?_
      refine l_rd rfl rfl (x_move (by conv => lhs; whnf)) ?_
      refine l_gy (wantY rfl rfl rfl) rfl rfl (x_move (by conv => lhs; whnf)) ?_
      refine l_gyD (wantY rfl rfl rfl) rfl rfl (x_eql rfl rfl) (fun h15 => ?_) (fun h15 => ?_)
      ·
        refine l_rd rfl rfl (x_pick0 rfl (by conv => lhs; whnf)) ?_
        refine l_rd rfl rfl (x_assign (by conv => lhs; whnf)) ?_
        refine WL.nil ?_
        refine WC.ret ?_
        refine atRet ?_
        exact RetM.one rfl (by (conv => lhs; whnf); try rfl) (⟨by rw [decide_eq_true (by unfold sgn; omega)], H.below 0 rfl⟩)
      ·
        refine l_rd rfl rfl (x_pick0 rfl (by conv => lhs; whnf)) ?_
        refine l_rd rfl rfl (x_assign (by conv => lhs; whnf)) ?_
        refine WL.nil ?_
        refine WC.ret ?_
        refine atRet ?_
        exact RetM.one rfl (by (conv => lhs; whnf); try rfl) (⟨by rw [decide_eq_false (by unfold sgn; omega)], H.below 0 rfl⟩)
theorem c97 {x : ByteArray} (w : World) (hsz : x.size ≤ 140737488355328) : CC Tryz.prog 97 [S x].toArray w (fun r w' => r = .bool (decide (vtx x)) ∧ Ext w w') := by
  obtain ⟨w0, e0⟩ : ∃ w0, w0 = w := ⟨w, rfl⟩
  subst e0
  have H := Hd.start w0
  refine CC.of (N := 23) Tryz.func97 rfl rfl rfl ?_
  refine WC.seq ?_
  refine WC.region ?_
  refine l_rd rfl rfl (x_assign ev_c) ?_
  refine WL.nil ?_
  refine WC.seq ?_
  refine WC.seq ?_
  refine WC.region ?_
  refine l_rd rfl rfl (x_assign ev_c) ?_
  refine WL.nil ?_
  refine WC.block ?_
  refine WC.loop (fun ρ ds w => ∃ k : Nat, k ≤ x.size ∧ (∀ (i : Nat) (h : i < x.size), i < k → sgn ((x[i].toNat : Nat) : Int)) ∧ ρ 3 = I k ∧ ρ 0 = S x ∧ ds = [] ∧ Hd (sy w0) w [fr w0]) (fun ρ w => x.size - (match ρ 3 with | .int _ k => k.toNat | _ => 0)) (⟨0, Nat.zero_le _, fun i _ h => absurd h (by omega), rfl, rfl, rfl, H⟩) ?_
  repeat clear H
  rintro ρ ds w ⟨k, hk, he, h3, h0, rfl, H⟩
  refine WC.seq ?_
  refine WC.seq ?_
  refine WC.region ?_
  refine l_rd rfl rfl (x_move h3) ?_
  refine l_rd rfl rfl (x_move h0) ?_
  refine l_rd rfl rfl (x_lenStr Tryz.underlying9 rfl rfl) ?_
  refine l_rdD rfl rfl (x_lss rfl rfl) (fun h7 => ?_) (fun h7 => ?_)
  ·
    refine WL.nil ?_
    refine WC.cond1 rfl ?_
    refine WC.skip ?_
    refine WC.seq ?_
    refine WC.block ?_
    refine WC.seq ?_
    have hkx : k < x.size := by omega
    refine WC.region ?_
    refine l_rd rfl rfl (x_move h0) ?_
    refine l_rd rfl rfl (x_move h3) ?_
    refine l_rd rfl rfl (x_indexS Tryz.underlying9 rfl rfl (by omega) (by omega)) ?_
    refine l_st rfl (s_callL cal163 (c163 (x := ((x[k].toNat : Nat) : Int)) _) ?_)
    rintro r w ⟨hr1, e1⟩
    have H := H.ext e1
    by_cases h13 : sgn ((x[k].toNat : Nat) : Int)
    ·
      obtain rfl : r = .bool true := by rw [hr1, decide_eq_true h13]
      refine l_rd rfl rfl (x_not rfl) ?_
      refine WL.nil ?_
      refine WC.cond0 rfl ?_
      refine WC.skip ?_
      refine WC.region ?_
      refine l_rd rfl rfl (x_move h3) ?_
      refine l_rd rfl rfl (x_add rfl rfl (by omega) (by omega)) ?_
      refine l_rd rfl rfl (x_assign (by conv => lhs; whnf)) ?_
      refine WL.nil ?_
      refine WC.again (⟨k + 1, by omega, fun i hi hik => by
            by_cases e : i = k
            · subst e; exact h13
            · exact he i hi (by omega), rfl, h0, rfl, H⟩) (by show _ - _ < _ - _; rw [h3]; show x.size - ((k : Int) + 1).toNat < x.size - (k : Int).toNat; omega)
    ·
      obtain rfl : r = .bool false := by rw [hr1, decide_eq_false h13]
      refine l_rd rfl rfl (x_not rfl) ?_
      refine WL.nil ?_
      refine WC.cond1 rfl ?_
      refine WC.seq ?_
      refine WC.region ?_
      refine l_rd rfl rfl (x_assign ev_c) ?_
      refine WL.nil ?_
      refine WC.ret ?_
      refine atRet ?_
      exact RetM.one rfl (by (conv => lhs; whnf); try rfl) (⟨by rw [decide_eq_false (fun h => h13 (h.1 k hkx))], H.below 0 rfl⟩)
  ·
    refine WL.nil ?_
    refine WC.cond0 rfl ?_
    refine WC.exit ?_
    refine WC.seq ?_
    refine WC.region ?_
    refine l_rd rfl rfl (x_move h0) ?_
    refine l_rd rfl rfl (x_lenStr Tryz.underlying9 rfl rfl) ?_
    refine l_rdD rfl rfl (x_geq rfl rfl) (fun h17 => ?_) (fun h17 => ?_)
    ·
      refine l_rd rfl rfl (x_move (by conv => lhs; whnf)) ?_
      refine l_gy (wantY rfl rfl rfl) rfl rfl (x_move h0) ?_
      refine l_gy (wantY rfl rfl rfl) rfl rfl (x_lenStr Tryz.underlying9 rfl rfl) ?_
      refine l_gyD (wantY rfl rfl rfl) rfl rfl (x_leq rfl rfl) (fun h21 => ?_) (fun h21 => ?_)
      ·
        refine l_rd rfl rfl (x_pick1 rfl (by conv => lhs; whnf)) ?_
        refine l_rd rfl rfl (x_assign (by conv => lhs; whnf)) ?_
        refine WL.nil ?_
        refine WC.ret ?_
        refine atRet ?_
        exact RetM.one rfl (by (conv => lhs; whnf); try rfl) (⟨by rw [decide_eq_true ⟨fun i hi => he i hi (by omega), by omega, by omega⟩], H.below 0 rfl⟩)
      ·
        refine l_rd rfl rfl (x_pick1 rfl (by conv => lhs; whnf)) ?_
        refine l_rd rfl rfl (x_assign (by conv => lhs; whnf)) ?_
        refine WL.nil ?_
        refine WC.ret ?_
        refine atRet ?_
        exact RetM.one rfl (by (conv => lhs; whnf); try rfl) (⟨by rw [decide_eq_false (fun h => by have := h.2; omega)], H.below 0 rfl⟩)
    ·
      refine l_rd rfl rfl (x_move (by conv => lhs; whnf)) ?_
      refine l_gn (wantN rfl rfl rfl) rfl ?_
      refine l_gn (wantN rfl rfl rfl) rfl ?_
      refine l_gn (wantN rfl rfl rfl) rfl ?_
      refine l_rd rfl rfl (x_pick0 rfl ev_c) ?_
      refine l_rd rfl rfl (x_assign (by conv => lhs; whnf)) ?_
      refine WL.nil ?_
      refine WC.ret ?_
      refine atRet ?_
      exact RetM.one rfl (by (conv => lhs; whnf); try rfl) (⟨by rw [decide_eq_false (fun h => by have := h.2; omega)], H.below 0 rfl⟩)
theorem c143 {x : ByteArray} (w : World) : CC Tryz.prog 143 [S x].toArray w (fun r w' => r = .bool (decide (vtx x)) ∧ Ext w w') := by
  obtain ⟨w0, e0⟩ : ∃ w0, w0 = w := ⟨w, rfl⟩
  subst e0
  have H := Hd.start w0
  refine CC.of (N := 32) Tryz.func143 rfl rfl rfl ?_
  refine WC.seq ?_
  refine WC.region ?_
  refine l_rd rfl rfl (x_assign ev_c) ?_
  refine WL.nil ?_
  refine WC.seq ?_
  refine WC.seq ?_
  refine WC.region ?_
  refine l_rd rfl rfl (x_move (by conv => lhs; whnf)) ?_
  refine l_st rfl (s_rangeS Tryz.underlying9 rfl H fun i6 w H => ?_)
  refine WL.nil ?_
  refine WC.block ?_
  refine WC.loop (fun ρ ds w => ∃ (b p : Nat), p ≤ x.size ∧ (∀ (i : Nat) (h : i < x.size), i < p → sgn ((x[i].toNat : Nat) : Int)) ∧ ρ 6 = .pointer (some ⟨b, 0, none⟩) ∧ ρ 0 = S x ∧ ds = [] ∧ Hd (sy w0) w [pt b (.stringIter x p), fr w0]) (fun ρ w => x.size - strIt w (ρ 6)) (⟨_, 0, Nat.zero_le _, fun i _ h => absurd h (by omega), rfl, rfl, rfl, H⟩) ?_
  repeat clear H
  rintro ρ ds w ⟨b, p, hk, he, h6, h0, rfl, H⟩
  refine WC.seq ?_
  refine WC.region ?_
  have hob := H.obj 0 rfl
  refine l_st rfl (s_nextV 0 rfl h6 H (fun hp ha w H => ?_) (fun hp ha cc qq hcc w H => ?_) (fun hp => ?_))
  ·
    obtain ⟨xx, hxx⟩ : ∃ xx : Int, xx = ((x[p].toNat : Nat) : Int) := ⟨_, rfl⟩
    refine l_rd rfl rfl (x_extract rfl rfl) ?_
    refine WL.nil ?_
    refine WC.seq ?_
    refine WC.cond1 rfl ?_
    refine WC.skip ?_
    refine WC.block ?_
    refine WC.seq ?_
    refine WC.region ?_
    refine l_rd rfl rfl (x_extract rfl rfl) ?_
    refine l_rd rfl rfl (x_assign (by conv => lhs; whnf)) ?_
    refine WL.nil ?_
    refine WC.seq ?_
    refine WC.region ?_
    refine l_rd rfl rfl (x_move (by conv => lhs; whnf)) ?_
    refine l_st rfl (s_callL cal194 (c194 _) ?_)
    rintro r w ⟨hr1, e1⟩
    have H := H.ext e1
    by_cases h11 : 97 ≤ ((x[p].toNat : Nat) : Int) ∧ ((x[p].toNat : Nat) : Int) ≤ 122
    ·
      obtain rfl : r = .bool true := by rw [hr1, decide_eq_true h11]
      refine l_rd rfl rfl (x_not rfl) ?_
      refine l_rd rfl rfl (x_move (by conv => lhs; whnf)) ?_
      refine l_gn (wantN rfl rfl rfl) rfl ?_
      refine l_gn (wantN rfl rfl rfl) rfl ?_
      refine l_rd rfl rfl (x_pick0 rfl ev_c) ?_
      refine l_rd rfl rfl (x_move (by conv => lhs; whnf)) ?_
      refine l_gn (wantN rfl rfl rfl) rfl ?_
      refine l_gn (wantN rfl rfl rfl) rfl ?_
      refine l_gn (wantN rfl rfl rfl) rfl ?_
      refine l_gn (wantU rfl rfl rfl) rfl ?_
      refine l_gn (wantU rfl rfl rfl) rfl ?_
      refine l_gn (wantN rfl rfl rfl) rfl ?_
      refine l_rd rfl rfl (x_pick0 rfl ev_c) ?_
      refine WL.nil ?_
      refine WC.cond0 rfl ?_
      refine WC.skip ?_
      refine blockE_n ?_
      refine WC.again (⟨b, p + 1, by omega, fun i hi hik => by
            by_cases e : i = p
            · subst e; unfold sgn; omega
            · exact he i hi (by omega), h6, h0, rfl, H⟩) (by show x.size - strIt _ (ρ 6) < x.size - strIt _ (ρ 6); rw [h6, strIt_eq (H.obj 0 rfl), strIt_eq hob]; omega)
    ·
      obtain rfl : r = .bool false := by rw [hr1, decide_eq_false h11]
      refine l_rd rfl rfl (x_not rfl) ?_
      refine l_rd rfl rfl (x_move (by conv => lhs; whnf)) ?_
      refine l_gy (wantY rfl rfl rfl) rfl rfl (x_move (by conv => lhs; whnf)) ?_
      refine l_gyD (wantY rfl rfl rfl) rfl rfl (x_neq rfl rfl) (fun h15 => ?_) (fun h15 => ?_)
      ·
        refine l_rd rfl rfl (x_pick1 rfl (by conv => lhs; whnf)) ?_
        refine l_rd rfl rfl (x_move (by conv => lhs; whnf)) ?_
        refine l_gy (wantY rfl rfl rfl) rfl rfl (x_move (by conv => lhs; whnf)) ?_
        refine l_gyD (wantY rfl rfl rfl) rfl rfl (x_lss rfl rfl) (fun h19 => ?_) (fun h19 => ?_)
        ·
          refine l_gy (wantY rfl rfl rfl) rfl rfl (x_move (by conv => lhs; whnf)) ?_
          refine l_gn (wantN rfl rfl rfl) rfl ?_
          refine l_gn (wantN rfl rfl rfl) rfl ?_
          refine l_gy (wantY rfl rfl rfl) rfl rfl (x_pick1 rfl ev_c) ?_
          refine l_rd rfl rfl (x_pick1 rfl (by conv => lhs; whnf)) ?_
          refine WL.nil ?_
          refine WC.cond1 rfl ?_
          refine WC.seq ?_
          have hns : ¬ sgn ((x[p].toNat : Nat) : Int) := by unfold sgn; omega
          refine WC.region ?_
          refine l_rd rfl rfl (x_assign ev_c) ?_
          refine WL.nil ?_
          refine WC.ret ?_
          refine atRet ?_
          exact RetM.one (v := .bool false) rfl rfl ⟨by rw [decide_eq_false (fun h => hns (h.1 p hp))], H.below 1 rfl⟩
        ·
          refine l_gy (wantY rfl rfl rfl) rfl rfl (x_move (by conv => lhs; whnf)) ?_
          refine l_gy (wantY rfl rfl rfl) rfl rfl (x_move (by conv => lhs; whnf)) ?_
          refine l_gyD (wantY rfl rfl rfl) rfl rfl (x_gtr rfl rfl) (fun h22 => ?_) (fun h22 => ?_)
          ·
            refine l_gy (wantY rfl rfl rfl) rfl rfl (x_pick0 rfl (by conv => lhs; whnf)) ?_
            refine l_rd rfl rfl (x_pick1 rfl (by conv => lhs; whnf)) ?_
            refine WL.nil ?_
            refine WC.cond1 rfl ?_
            refine WC.seq ?_
            have hns : ¬ sgn ((x[p].toNat : Nat) : Int) := by unfold sgn; omega
            refine WC.region ?_
            refine l_rd rfl rfl (x_assign ev_c) ?_
            refine WL.nil ?_
            refine WC.ret ?_
            refine atRet ?_
            exact RetM.one (v := .bool false) rfl rfl ⟨by rw [decide_eq_false (fun h => hns (h.1 p hp))], H.below 1 rfl⟩
          ·
            refine l_gy (wantY rfl rfl rfl) rfl rfl (x_pick0 rfl (by conv => lhs; whnf)) ?_
            refine l_rd rfl rfl (x_pick1 rfl (by conv => lhs; whnf)) ?_
            refine WL.nil ?_
            refine WC.cond0 rfl ?_
            refine WC.skip ?_
            refine blockE_n ?_
            refine WC.again (⟨b, p + 1, by omega, fun i hi hik => by
                  by_cases e : i = p
                  · subst e; unfold sgn; omega
                  · exact he i hi (by omega), h6, h0, rfl, H⟩) (by show x.size - strIt _ (ρ 6) < x.size - strIt _ (ρ 6); rw [h6, strIt_eq (H.obj 0 rfl), strIt_eq hob]; omega)
      ·
        refine l_rd rfl rfl (x_pick1 rfl (by conv => lhs; whnf)) ?_
        refine l_rd rfl rfl (x_move (by conv => lhs; whnf)) ?_
        refine l_gn (wantN rfl rfl rfl) rfl ?_
        refine l_gn (wantN rfl rfl rfl) rfl ?_
        refine l_gn (wantN rfl rfl rfl) rfl ?_
        refine l_gn (wantU rfl rfl rfl) rfl ?_
        refine l_gn (wantU rfl rfl rfl) rfl ?_
        refine l_gn (wantN rfl rfl rfl) rfl ?_
        refine l_rd rfl rfl (x_pick0 rfl ev_c) ?_
        refine WL.nil ?_
        refine WC.cond0 rfl ?_
        refine WC.skip ?_
        refine blockE_n ?_
        refine WC.again (⟨b, p + 1, by omega, fun i hi hik => by
              by_cases e : i = p
              · subst e; unfold sgn; omega
              · exact he i hi (by omega), h6, h0, rfl, H⟩) (by show x.size - strIt _ (ρ 6) < x.size - strIt _ (ρ 6); rw [h6, strIt_eq (H.obj 0 rfl), strIt_eq hob]; omega)
  ·
    refine l_rd rfl rfl (x_extract rfl rfl) ?_
    refine WL.nil ?_
    refine WC.seq ?_
    refine WC.cond1 rfl ?_
    refine WC.skip ?_
    refine WC.block ?_
    refine WC.seq ?_
    refine WC.region ?_
    refine l_rd rfl rfl (x_extract rfl rfl) ?_
    refine l_rd rfl rfl (x_assign (by conv => lhs; whnf)) ?_
    refine WL.nil ?_
    refine WC.seq ?_
    refine WC.region ?_
    refine l_rd rfl rfl (x_move (by conv => lhs; whnf)) ?_
    refine l_st rfl (s_callL cal194 (c194 _) ?_)
    rintro r w ⟨hr1, e1⟩
    have H := H.ext e1
    by_cases h11 : 97 ≤ ((cc : Nat) : Int) ∧ ((cc : Nat) : Int) ≤ 122
    ·
      obtain rfl : r = .bool true := by rw [hr1, decide_eq_true h11]
      refine l_rd rfl rfl (x_not rfl) ?_
      refine l_rd rfl rfl (x_move (by conv => lhs; whnf)) ?_
      refine l_gn (wantN rfl rfl rfl) rfl ?_
      refine l_gn (wantN rfl rfl rfl) rfl ?_
      refine l_rd rfl rfl (x_pick0 rfl ev_c) ?_
      refine l_rd rfl rfl (x_move (by conv => lhs; whnf)) ?_
      refine l_gn (wantN rfl rfl rfl) rfl ?_
      refine l_gn (wantN rfl rfl rfl) rfl ?_
      refine l_gn (wantN rfl rfl rfl) rfl ?_
      refine l_gn (wantU rfl rfl rfl) rfl ?_
      refine l_gn (wantU rfl rfl rfl) rfl ?_
      refine l_gn (wantN rfl rfl rfl) rfl ?_
      refine l_rd rfl rfl (x_pick0 rfl ev_c) ?_
      refine WL.nil ?_
      refine WC.cond0 rfl ?_
      refine WC.skip ?_
      exfalso; omega
    ·
      obtain rfl : r = .bool false := by rw [hr1, decide_eq_false h11]
      refine l_rd rfl rfl (x_not rfl) ?_
      refine l_rd rfl rfl (x_move (by conv => lhs; whnf)) ?_
      refine l_gy (wantY rfl rfl rfl) rfl rfl (x_move (by conv => lhs; whnf)) ?_
      refine l_gyD (wantY rfl rfl rfl) rfl rfl (x_neq rfl rfl) (fun h15 => ?_) (fun h15 => ?_)
      ·
        refine l_rd rfl rfl (x_pick1 rfl (by conv => lhs; whnf)) ?_
        refine l_rd rfl rfl (x_move (by conv => lhs; whnf)) ?_
        refine l_gy (wantY rfl rfl rfl) rfl rfl (x_move (by conv => lhs; whnf)) ?_
        refine l_gyD (wantY rfl rfl rfl) rfl rfl (x_lss rfl rfl) (fun h19 => ?_) (fun h19 => ?_)
        ·
          refine l_gy (wantY rfl rfl rfl) rfl rfl (x_move (by conv => lhs; whnf)) ?_
          refine l_gn (wantN rfl rfl rfl) rfl ?_
          refine l_gn (wantN rfl rfl rfl) rfl ?_
          refine l_gy (wantY rfl rfl rfl) rfl rfl (x_pick1 rfl ev_c) ?_
          refine l_rd rfl rfl (x_pick1 rfl (by conv => lhs; whnf)) ?_
          refine WL.nil ?_
          refine WC.cond1 rfl ?_
          refine WC.seq ?_
          have hns : ¬ sgn ((x[p].toNat : Nat) : Int) := by unfold sgn; omega
          refine WC.region ?_
          refine l_rd rfl rfl (x_assign ev_c) ?_
          refine WL.nil ?_
          refine WC.ret ?_
          refine atRet ?_
          exact RetM.one (v := .bool false) rfl rfl ⟨by rw [decide_eq_false (fun h => hns (h.1 p hp))], H.below 1 rfl⟩
        ·
          refine l_gy (wantY rfl rfl rfl) rfl rfl (x_move (by conv => lhs; whnf)) ?_
          refine l_gy (wantY rfl rfl rfl) rfl rfl (x_move (by conv => lhs; whnf)) ?_
          refine l_gyD (wantY rfl rfl rfl) rfl rfl (x_gtr rfl rfl) (fun h22 => ?_) (fun h22 => ?_)
          ·
            refine l_gy (wantY rfl rfl rfl) rfl rfl (x_pick0 rfl (by conv => lhs; whnf)) ?_
            refine l_rd rfl rfl (x_pick1 rfl (by conv => lhs; whnf)) ?_
            refine WL.nil ?_
            refine WC.cond1 rfl ?_
            refine WC.seq ?_
            have hns : ¬ sgn ((x[p].toNat : Nat) : Int) := by unfold sgn; omega
            refine WC.region ?_
            refine l_rd rfl rfl (x_assign ev_c) ?_
            refine WL.nil ?_
            refine WC.ret ?_
            refine atRet ?_
            exact RetM.one (v := .bool false) rfl rfl ⟨by rw [decide_eq_false (fun h => hns (h.1 p hp))], H.below 1 rfl⟩
          ·
            refine l_gy (wantY rfl rfl rfl) rfl rfl (x_pick0 rfl (by conv => lhs; whnf)) ?_
            refine l_rd rfl rfl (x_pick1 rfl (by conv => lhs; whnf)) ?_
            refine WL.nil ?_
            refine WC.cond0 rfl ?_
            refine WC.skip ?_
            exfalso; omega
      ·
        refine l_rd rfl rfl (x_pick1 rfl (by conv => lhs; whnf)) ?_
        refine l_rd rfl rfl (x_move (by conv => lhs; whnf)) ?_
        refine l_gn (wantN rfl rfl rfl) rfl ?_
        refine l_gn (wantN rfl rfl rfl) rfl ?_
        refine l_gn (wantN rfl rfl rfl) rfl ?_
        refine l_gn (wantU rfl rfl rfl) rfl ?_
        refine l_gn (wantU rfl rfl rfl) rfl ?_
        refine l_gn (wantN rfl rfl rfl) rfl ?_
        refine l_rd rfl rfl (x_pick0 rfl ev_c) ?_
        refine WL.nil ?_
        refine WC.cond0 rfl ?_
        refine WC.skip ?_
        exfalso; omega
  ·
    refine l_rd rfl rfl (x_extract rfl rfl) ?_
    refine WL.nil ?_
    refine WC.seq ?_
    refine WC.cond0 rfl ?_
    refine WC.exit ?_
    refine WC.seq ?_
    refine WC.region ?_
    refine l_rd rfl rfl (x_move h0) ?_
    refine l_rdD rfl rfl (x_neqS rfl rfl) (fun h26 => ?_) (fun h26 => ?_)
    ·
      refine l_rd rfl rfl (x_move (by conv => lhs; whnf)) ?_
      refine l_gy (wantY rfl rfl rfl) rfl rfl (x_move h0) ?_
      refine l_gy (wantY rfl rfl rfl) rfl rfl (x_lenStr Tryz.underlying9 rfl rfl) ?_
      refine l_gyD (wantY rfl rfl rfl) rfl rfl (x_leq rfl rfl) (fun h30 => ?_) (fun h30 => ?_)
      ·
        refine l_rd rfl rfl (x_pick1 rfl (by conv => lhs; whnf)) ?_
        refine l_rd rfl rfl (x_assign (by conv => lhs; whnf)) ?_
        refine WL.nil ?_
        refine WC.ret ?_
        refine atRet ?_
        exact RetM.one (v := .bool true) rfl rfl ⟨by rw [decide_eq_true ⟨fun i hi => he i hi (by omega), ne_size h26, by omega⟩], H.below 1 rfl⟩
      ·
        refine l_rd rfl rfl (x_pick1 rfl (by conv => lhs; whnf)) ?_
        refine l_rd rfl rfl (x_assign (by conv => lhs; whnf)) ?_
        refine WL.nil ?_
        refine WC.ret ?_
        refine atRet ?_
        exact RetM.one (v := .bool false) rfl rfl ⟨by rw [decide_eq_false (fun h => by have := h.2; omega)], H.below 1 rfl⟩
    ·
      refine l_rd rfl rfl (x_move (by conv => lhs; whnf)) ?_
      refine l_gn (wantN rfl rfl rfl) rfl ?_
      refine l_gn (wantN rfl rfl rfl) rfl ?_
      refine l_gn (wantN rfl rfl rfl) rfl ?_
      refine l_rd rfl rfl (x_pick0 rfl ev_c) ?_
      refine l_rd rfl rfl (x_assign (by conv => lhs; whnf)) ?_
      refine WL.nil ?_
      refine WC.ret ?_
      refine atRet ?_
      exact RetM.one (v := .bool false) rfl rfl ⟨by rw [decide_eq_false (fun h => by have h1 := h.2; have h2 := size_ne (Classical.not_not.1 h26); omega)], H.below 1 rfl⟩
theorem mem_at {ts : List ByteArray} {k : Nat} {x : ByteArray} (h : ts[k]? = some x) : x ∈ ts := List.mem_of_getElem? h
theorem no_at {ts : List ByteArray} {k : Nat} {x : ByteArray} (h : ts.length ≤ k) (he : ∀ j, j < k → ts[j]? ≠ some x) : ¬ x ∈ ts := fun hm => by
  obtain ⟨j, hj⟩ := List.getElem?_of_mem hm
  exact he j (by have := (List.getElem?_eq_some_iff.1 hj).1; omega) hj
theorem idx_at {ts : List ByteArray} {k : Nat} {x : ByteArray} (h : ts[k]? = some x) (he : ∀ j, j < k → ts[j]? ≠ some x) : ((ts.idxOf x : Nat) : Int) = (k : Int) := by
  have hm : ts.idxOf x < ts.length := List.idxOf_lt_length_of_mem (mem_at h)
  have h1 : ts[ts.idxOf x]? = some x := by rw [List.getElem?_eq_getElem hm, List.getElem_idxOf hm]
  have h2 : ¬ ts.idxOf x < k := fun hl => he _ hl h1
  have h3 : ¬ k < ts.idxOf x := fun hl => by
    have := List.not_of_lt_findIdx hl
    obtain ⟨hk, e⟩ := List.getElem?_eq_some_iff.1 h
    simp [e] at this
  omega
def wordsL : List ByteArray := [⟨#[97, 115]⟩, ⟨#[109, 97, 116, 99, 104]⟩, ⟨#[119, 104, 101, 114, 101]⟩, ⟨#[97, 110, 100]⟩, ⟨#[114, 101, 116, 117, 114, 110]⟩, ⟨#[114, 97, 110, 103, 101]⟩, ⟨#[115, 108, 105, 100, 101]⟩]
theorem i32_b (b : UInt8) : IntKind.i32.wrap (b.toNat : Int) = (b.toNat : Int) := by
  have := b.toNat_lt
  simp only [IntKind.wrap, IntKind.bits, IntKind.signed]
  simp
  omega
def fre (x : ByteArray) : Prop := vtx x ∧ (∃ h : 0 < x.size, (97 : Int) ≤ (((x[0]'h).toNat : Nat) : Int) ∧ (((x[0]'h).toNat : Nat) : Int) ≤ 122) ∧ ¬ x ∈ wordsL
noncomputable instance (x : ByteArray) : Decidable (fre x) := Classical.propDecidable _
theorem no_word {x : ByteArray} (h1 : ¬ x = ⟨#[97, 115]⟩) (h2 : ¬ x = ⟨#[109, 97, 116, 99, 104]⟩) (h3 : ¬ x = ⟨#[119, 104, 101, 114, 101]⟩) (h4 : ¬ x = ⟨#[97, 110, 100]⟩) (h5 : ¬ x = ⟨#[114, 101, 116, 117, 114, 110]⟩) (h6 : ¬ x = ⟨#[114, 97, 110, 103, 101]⟩) (h7 : ¬ x = ⟨#[115, 108, 105, 100, 101]⟩) : ¬ x ∈ wordsL := by
  simp only [wordsL, List.mem_cons, List.not_mem_nil, or_false]
  rintro (q | q | q | q | q | q | q)
  · exact h1 q
  · exact h2 q
  · exact h3 q
  · exact h4 q
  · exact h5 q
  · exact h6 q
  · exact h7 q
theorem c235 {v : Value} {ts : List ByteArray} {x : ByteArray} (w : World) (hr : RdL w v S ts) : CC Tryz.prog 235 [v, S x].toArray w (fun r w' => r = I (if x ∈ ts then (ts.idxOf x : Int) else -1) ∧ Ext w w') := by
  obtain ⟨w0, e0⟩ : ∃ w0, w0 = w := ⟨w, rfl⟩
  subst e0
  have H := Hd.start w0
  obtain ⟨a, c, rfl⟩ := hr.shape
  have hle := hr.le
  refine CC.of (N := 19) Tryz.func235 rfl rfl rfl ?_
  refine WC.seq ?_
  refine WC.region ?_
  refine l_rd rfl rfl (x_assign ev_c) ?_
  refine WL.nil ?_
  refine WC.seq ?_
  refine WC.seq ?_
  refine WC.region ?_
  refine l_rd rfl rfl (x_move (by conv => lhs; whnf)) ?_
  refine l_rd rfl rfl (x_lenSlice Tryz.underlying103 rfl rfl) ?_
  refine l_rd rfl rfl (x_move ev_c) ?_
  refine WL.nil ?_
  refine WC.block ?_
  refine WC.loop (fun ρ ds w => ∃ k : Nat, k ≤ ts.length ∧ (∀ j, j < k → ts[j]? ≠ some x) ∧ ρ 8 = .int .i64 k ∧ ρ 7 = .int .i64 ts.length ∧ ρ 0 = .slice a ts.length c ∧ ρ 1 = S x ∧ ds = [] ∧ Hd (sy w0) w [fr w0]) (fun ρ w => ts.length - (match ρ 8 with | .int _ k => k.toNat | _ => 0)) (⟨0, Nat.zero_le _, fun j h => absurd h (by omega), rfl, rfl, rfl, rfl, rfl, H⟩) ?_
  repeat clear H
  rintro ρ ds w ⟨k, hk, he, h8, h7, h0, h1, rfl, H⟩
  refine WC.seq ?_
  refine WC.region ?_
  refine l_rdD rfl rfl (x_lss h8 h7) (fun h9 => ?_) (fun h9 => ?_)
  ·
    refine WL.nil ?_
    refine WC.seq ?_
    refine WC.cond1 rfl ?_
    refine WC.skip ?_
    refine WC.seq ?_
    refine WC.block ?_
    refine WC.seq ?_
    refine WC.region ?_
    refine l_rd rfl rfl (x_move h8) ?_
    refine l_rd rfl rfl (x_assign (by conv => lhs; whnf)) ?_
    refine WL.nil ?_
    refine WC.seq ?_
    obtain ⟨y, hyk⟩ := lt_get (show k < ts.length by omega)
    obtain ⟨b1, o1, rfl, hc1⟩ := ((H.old 0 rfl).rdL hr).el hyk
    refine WC.region ?_
    refine l_rd rfl rfl (x_move h1) ?_
    refine l_rd rfl rfl (x_move h0) ?_
    refine l_rd rfl rfl (x_move (by conv => lhs; whnf)) ?_
    refine l_rd rfl rfl (x_indexAddr Tryz.underlying103 ty9 rfl rfl (by omega) (by omega)) ?_
    refine l_rd rfl rfl (x_load Tryz.underlying9 rfl rfl hc1) ?_
    refine l_rdD rfl rfl (x_eqlS rfl rfl) (fun h16 => ?_) (fun h16 => ?_)
    ·
      refine WL.nil ?_
      refine WC.cond1 rfl ?_
      refine WC.seq ?_
      refine WC.region ?_
      refine l_rd rfl rfl (x_move (by conv => lhs; whnf)) ?_
      refine l_rd rfl rfl (x_assign (by conv => lhs; whnf)) ?_
      refine WL.nil ?_
      refine WC.ret ?_
      refine atRet ?_
      exact RetM.one rfl (by (conv => lhs; whnf); try rfl) (⟨by rw [if_pos (mem_at (h16 ▸ hyk)), idx_at (h16 ▸ hyk) he], H.below 0 rfl⟩)
    ·
      refine WL.nil ?_
      refine WC.cond0 rfl ?_
      refine WC.skip ?_
      refine WC.region ?_
      refine l_rd rfl rfl (x_add h8 rfl (by omega) (by omega)) ?_
      refine l_rd rfl rfl (x_move (by conv => lhs; whnf)) ?_
      refine WL.nil ?_
      refine WC.again (⟨k + 1, by omega, fun j hj => by
            by_cases e : j = k
            · subst e; rw [hyk]; exact fun e => h16 (by simpa using e.symm)
            · exact he j (by omega), rfl, h7, h0, h1, rfl, H⟩) (by show _ - _ < _ - _; rw [h8]; show ts.length - ((k : Int) + 1).toNat < ts.length - (k : Int).toNat; omega)
  ·
    refine WL.nil ?_
    refine WC.seq ?_
    refine WC.cond0 rfl ?_
    refine WC.exit ?_
    refine WC.seq ?_
    refine WC.region ?_
    refine l_rd rfl rfl (x_assign ev_c) ?_
    refine WL.nil ?_
    refine WC.ret ?_
    refine atRet ?_
    exact RetM.one rfl (by (conv => lhs; whnf); try rfl) (⟨by rw [if_neg (no_at (by omega) he)], H.below 0 rfl⟩)
theorem c195 {v : Value} {ts : List ByteArray} {x : ByteArray} (w : World) (hr : RdL w v S ts) : CC Tryz.prog 195 [v, S x].toArray w (fun r w' => r = .bool (decide (x ∈ ts)) ∧ Ext w w') := by
  obtain ⟨w0, e0⟩ : ∃ w0, w0 = w := ⟨w, rfl⟩
  subst e0
  have H := Hd.start w0
  refine CC.of (N := 9) Tryz.func195 rfl rfl rfl ?_
  refine WC.seq ?_
  refine WC.region ?_
  refine l_rd rfl rfl (x_assign ev_c) ?_
  refine WL.nil ?_
  refine WC.seq ?_
  refine WC.region ?_
  refine l_rd rfl rfl (x_move (by conv => lhs; whnf)) ?_
  refine l_rd rfl rfl (x_move (by conv => lhs; whnf)) ?_
  refine l_st rfl (s_callL cal235 (c235 _ ((H.old 0 rfl).rdL hr)) ?_)
  rintro _ w ⟨rfl, e1⟩
  have H := H.ext e1
  refine l_rdD rfl rfl (x_geq rfl rfl) (fun h8 => ?_) (fun h8 => ?_)
  ·
    refine l_rd rfl rfl (x_assign (by conv => lhs; whnf)) ?_
    refine WL.nil ?_
    refine WC.ret ?_
    refine atRet ?_
    exact RetM.one rfl (by (conv => lhs; whnf); try rfl) (⟨by rw [decide_eq_true]; split at h8 <;> first | assumption | omega, H.below 0 rfl⟩)
  ·
    refine l_rd rfl rfl (x_assign (by conv => lhs; whnf)) ?_
    refine WL.nil ?_
    refine WC.ret ?_
    refine atRet ?_
    exact RetM.one rfl (by (conv => lhs; whnf); try rfl) (⟨by rw [decide_eq_false]; split at h8 <;> first | assumption | omega, H.below 0 rfl⟩)
theorem c98 {x : ByteArray} (w : World) (hsz : x.size ≤ 140737488355328) : CC Tryz.prog 98 [S x].toArray w (fun r w' => r = .bool (decide (fre x)) ∧ Ext w w') := by
  obtain ⟨w0, e0⟩ : ∃ w0, w0 = w := ⟨w, rfl⟩
  subst e0
  have H := Hd.start w0
  refine CC.of (N := 21) Tryz.func98 rfl rfl rfl ?_
  refine WC.seq ?_
  refine WC.region ?_
  refine l_rd rfl rfl (x_assign ev_c) ?_
  refine WL.nil ?_
  refine WC.seq ?_
  refine WC.seq ?_
  refine WC.region ?_
  refine l_rd rfl rfl (x_move (by conv => lhs; whnf)) ?_
  refine l_st rfl (s_callL cal97 (c97 _ hsz) ?_)
  rintro r w ⟨hr1, e1⟩
  have H := H.ext e1
  by_cases h4 : vtx x
  ·
    obtain rfl : r = .bool true := by rw [hr1, decide_eq_true h4]
    have hs1 : 0 < x.size := h4.2.1
    refine l_rd rfl rfl (x_not rfl) ?_
    refine l_rd rfl rfl (x_move (by conv => lhs; whnf)) ?_
    refine l_gy (wantY rfl rfl rfl) rfl rfl (x_move (by conv => lhs; whnf)) ?_
    refine l_gy (wantY rfl rfl rfl) rfl rfl (x_indexS Tryz.underlying9 rfl rfl (by omega) (by omega)) ?_
    refine l_gst (wantY rfl rfl rfl) rfl (s_callL cal164 (c164 (x := (((x[0]'hs1).toNat : Nat) : Int)) _) ?_)
    rintro r w ⟨hr1, e1⟩
    have H := H.ext e1
    by_cases h9 : (97 : Int) ≤ (((x[0]'hs1).toNat : Nat) : Int) ∧ (((x[0]'hs1).toNat : Nat) : Int) ≤ 122
    ·
      obtain rfl : r = .bool true := by rw [hr1, decide_eq_true h9]
      refine l_gy (wantY rfl rfl rfl) rfl rfl (x_not rfl) ?_
      refine l_rd rfl rfl (x_pick0 rfl (by conv => lhs; whnf)) ?_
      refine WL.nil ?_
      refine WC.cond0 rfl ?_
      refine WC.skip ?_
      refine WC.seq ?_
      refine WC.seq ?_
      refine WC.region ?_
      refine l_rd rfl rfl (x_move (by conv => lhs; whnf)) ?_
      refine WL.nil ?_
      refine WC.block ?_
      refine WC.seq ?_
      refine WC.seq ?_
      refine WC.region ?_
      refine l_rdD rfl rfl (x_eqlS rfl rfl) (fun h14 => ?_) (fun h14 => ?_)
      ·
        refine l_rd rfl rfl (x_assign (by conv => lhs; whnf)) ?_
        refine WL.nil ?_
        refine WC.cond1 rfl ?_
        refine WC.skip ?_
        refine WC.cond1 rfl ?_
        refine WC.seq ?_
        refine WC.region ?_
        refine l_rd rfl rfl (x_assign ev_c) ?_
        refine WL.nil ?_
        refine WC.ret ?_
        refine atRet ?_
        exact RetM.one rfl (by (conv => lhs; whnf); try rfl) (⟨by rw [decide_eq_false (fun h => h.2.2 (by rw [h14]; simp [wordsL]))], H.below 0 rfl⟩)
      ·
        refine l_rd rfl rfl (x_assign (by conv => lhs; whnf)) ?_
        refine WL.nil ?_
        refine WC.cond0 rfl ?_
        refine WC.seq ?_
        refine WC.region ?_
        refine l_rdD rfl rfl (x_eqlS rfl rfl) (fun h15 => ?_) (fun h15 => ?_)
        ·
          refine l_rd rfl rfl (x_assign (by conv => lhs; whnf)) ?_
          refine WL.nil ?_
          refine WC.cond1 rfl ?_
          refine WC.skip ?_
          refine WC.cond1 rfl ?_
          refine WC.seq ?_
          refine WC.region ?_
          refine l_rd rfl rfl (x_assign ev_c) ?_
          refine WL.nil ?_
          refine WC.ret ?_
          refine atRet ?_
          exact RetM.one rfl (by (conv => lhs; whnf); try rfl) (⟨by rw [decide_eq_false (fun h => h.2.2 (by rw [h15]; simp [wordsL]))], H.below 0 rfl⟩)
        ·
          refine l_rd rfl rfl (x_assign (by conv => lhs; whnf)) ?_
          refine WL.nil ?_
          refine WC.cond0 rfl ?_
          refine WC.seq ?_
          refine WC.region ?_
          refine l_rdD rfl rfl (x_eqlS rfl rfl) (fun h16 => ?_) (fun h16 => ?_)
          ·
            refine l_rd rfl rfl (x_assign (by conv => lhs; whnf)) ?_
            refine WL.nil ?_
            refine WC.cond1 rfl ?_
            refine WC.skip ?_
            refine WC.cond1 rfl ?_
            refine WC.seq ?_
            refine WC.region ?_
            refine l_rd rfl rfl (x_assign ev_c) ?_
            refine WL.nil ?_
            refine WC.ret ?_
            refine atRet ?_
            exact RetM.one rfl (by (conv => lhs; whnf); try rfl) (⟨by rw [decide_eq_false (fun h => h.2.2 (by rw [h16]; simp [wordsL]))], H.below 0 rfl⟩)
          ·
            refine l_rd rfl rfl (x_assign (by conv => lhs; whnf)) ?_
            refine WL.nil ?_
            refine WC.cond0 rfl ?_
            refine WC.seq ?_
            refine WC.region ?_
            refine l_rdD rfl rfl (x_eqlS rfl rfl) (fun h17 => ?_) (fun h17 => ?_)
            ·
              refine l_rd rfl rfl (x_assign (by conv => lhs; whnf)) ?_
              refine WL.nil ?_
              refine WC.cond1 rfl ?_
              refine WC.skip ?_
              refine WC.cond1 rfl ?_
              refine WC.seq ?_
              refine WC.region ?_
              refine l_rd rfl rfl (x_assign ev_c) ?_
              refine WL.nil ?_
              refine WC.ret ?_
              refine atRet ?_
              exact RetM.one rfl (by (conv => lhs; whnf); try rfl) (⟨by rw [decide_eq_false (fun h => h.2.2 (by rw [h17]; simp [wordsL]))], H.below 0 rfl⟩)
            ·
              refine l_rd rfl rfl (x_assign (by conv => lhs; whnf)) ?_
              refine WL.nil ?_
              refine WC.cond0 rfl ?_
              refine WC.seq ?_
              refine WC.region ?_
              refine l_rdD rfl rfl (x_eqlS rfl rfl) (fun h18 => ?_) (fun h18 => ?_)
              ·
                refine l_rd rfl rfl (x_assign (by conv => lhs; whnf)) ?_
                refine WL.nil ?_
                refine WC.cond1 rfl ?_
                refine WC.skip ?_
                refine WC.cond1 rfl ?_
                refine WC.seq ?_
                refine WC.region ?_
                refine l_rd rfl rfl (x_assign ev_c) ?_
                refine WL.nil ?_
                refine WC.ret ?_
                refine atRet ?_
                exact RetM.one rfl (by (conv => lhs; whnf); try rfl) (⟨by rw [decide_eq_false (fun h => h.2.2 (by rw [h18]; simp [wordsL]))], H.below 0 rfl⟩)
              ·
                refine l_rd rfl rfl (x_assign (by conv => lhs; whnf)) ?_
                refine WL.nil ?_
                refine WC.cond0 rfl ?_
                refine WC.seq ?_
                refine WC.region ?_
                refine l_rdD rfl rfl (x_eqlS rfl rfl) (fun h19 => ?_) (fun h19 => ?_)
                ·
                  refine l_rd rfl rfl (x_assign (by conv => lhs; whnf)) ?_
                  refine WL.nil ?_
                  refine WC.cond1 rfl ?_
                  refine WC.skip ?_
                  refine WC.cond1 rfl ?_
                  refine WC.seq ?_
                  refine WC.region ?_
                  refine l_rd rfl rfl (x_assign ev_c) ?_
                  refine WL.nil ?_
                  refine WC.ret ?_
                  refine atRet ?_
                  exact RetM.one rfl (by (conv => lhs; whnf); try rfl) (⟨by rw [decide_eq_false (fun h => h.2.2 (by rw [h19]; simp [wordsL]))], H.below 0 rfl⟩)
                ·
                  refine l_rd rfl rfl (x_assign (by conv => lhs; whnf)) ?_
                  refine WL.nil ?_
                  refine WC.cond0 rfl ?_
                  refine WC.region ?_
                  refine l_rdD rfl rfl (x_eqlS rfl rfl) (fun h20 => ?_) (fun h20 => ?_)
                  ·
                    refine l_rd rfl rfl (x_assign (by conv => lhs; whnf)) ?_
                    refine WL.nil ?_
                    refine WC.cond1 rfl ?_
                    refine WC.seq ?_
                    refine WC.region ?_
                    refine l_rd rfl rfl (x_assign ev_c) ?_
                    refine WL.nil ?_
                    refine WC.ret ?_
                    refine atRet ?_
                    exact RetM.one rfl (by (conv => lhs; whnf); try rfl) (⟨by rw [decide_eq_false (fun h => h.2.2 (by rw [h20]; simp [wordsL]))], H.below 0 rfl⟩)
                  ·
                    refine l_rd rfl rfl (x_assign (by conv => lhs; whnf)) ?_
                    refine WL.nil ?_
                    refine WC.cond0 rfl ?_
                    refine WC.skip ?_
                    refine WC.seq ?_
                    refine WC.region ?_
                    refine l_rd rfl rfl (x_assign ev_c) ?_
                    refine WL.nil ?_
                    refine WC.ret ?_
                    refine atRet ?_
                    exact RetM.one rfl (by (conv => lhs; whnf); try rfl) (⟨by rw [decide_eq_true ⟨h4, ⟨hs1, h9⟩, no_word h14 h15 h16 h17 h18 h19 h20⟩], H.below 0 rfl⟩)
    ·
      obtain rfl : r = .bool false := by rw [hr1, decide_eq_false h9]
      refine l_gy (wantY rfl rfl rfl) rfl rfl (x_not rfl) ?_
      refine l_rd rfl rfl (x_pick0 rfl (by conv => lhs; whnf)) ?_
      refine WL.nil ?_
      refine WC.cond1 rfl ?_
      refine WC.seq ?_
      refine WC.region ?_
      refine l_rd rfl rfl (x_assign ev_c) ?_
      refine WL.nil ?_
      refine WC.ret ?_
      refine atRet ?_
      exact RetM.one rfl (by (conv => lhs; whnf); try rfl) (⟨by rw [decide_eq_false (fun h => h9 (by obtain ⟨_, q⟩ := h.2.1; exact q))], H.below 0 rfl⟩)
  ·
    obtain rfl : r = .bool false := by rw [hr1, decide_eq_false h4]
    refine l_rd rfl rfl (x_not rfl) ?_
    refine l_rd rfl rfl (x_move (by conv => lhs; whnf)) ?_
    refine l_gn (wantN rfl rfl rfl) rfl ?_
    refine l_gn (wantN rfl rfl rfl) rfl ?_
    refine l_gn (wantN rfl rfl rfl) rfl ?_
    refine l_gn (wantN rfl rfl rfl) rfl ?_
    refine l_rd rfl rfl (x_pick1 rfl ev_c) ?_
    refine WL.nil ?_
    refine WC.cond1 rfl ?_
    refine WC.seq ?_
    refine WC.region ?_
    refine l_rd rfl rfl (x_assign ev_c) ?_
    refine WL.nil ?_
    refine WC.ret ?_
    refine atRet ?_
    exact RetM.one rfl (by (conv => lhs; whnf); try rfl) (⟨by rw [decide_eq_false (fun h => h4 h.1)], H.below 0 rfl⟩)
theorem c144 {x : ByteArray} (w : World) : CC Tryz.prog 144 [S x].toArray w (fun r w' => r = .bool (decide (fre x)) ∧ Ext w w') := by
  obtain ⟨w0, e0⟩ : ∃ w0, w0 = w := ⟨w, rfl⟩
  subst e0
  have H := Hd.start w0
  refine CC.of (N := 19) Tryz.func144 rfl rfl rfl ?_
  refine WC.seq ?_
  refine WC.region ?_
  refine l_rd rfl rfl (x_assign ev_c) ?_
  refine WL.nil ?_
  refine WC.seq ?_
  refine WC.region ?_
  refine l_st rfl (s_buildN (xs := [.const (.string ⟨#[97, 115]⟩), .const (.string ⟨#[109, 97, 116, 99, 104]⟩), .const (.string ⟨#[119, 104, 101, 114, 101]⟩), .const (.string ⟨#[97, 110, 100]⟩), .const (.string ⟨#[114, 101, 116, 117, 114, 110]⟩), .const (.string ⟨#[114, 97, 110, 103, 101]⟩), .const (.string ⟨#[115, 108, 105, 100, 101]⟩)]) (vs := wordsL.map S) Tryz.underlying103 ty9 rfl rfl rfl rfl (by decide) (by decide) (fun v hv => by obtain ⟨x, _, rfl⟩ := List.mem_map.1 hv; rfl) H fun b4 w H => ?_)
  refine l_rd rfl rfl (x_assign (by conv => lhs; whnf)) ?_
  refine WL.nil ?_
  refine WC.seq ?_
  refine WC.region ?_
  refine l_rd rfl rfl (x_move (by conv => lhs; whnf)) ?_
  refine l_st rfl (s_callL cal143 (c143 _) ?_)
  rintro r w ⟨hr1, e1⟩
  have H := H.ext e1
  by_cases h6 : vtx x
  ·
    obtain rfl : r = .bool true := by rw [hr1, decide_eq_true h6]
    have hs1 : 0 < x.size := h6.2.1
    refine l_rd rfl rfl (x_move (by conv => lhs; whnf)) ?_
    refine l_gy (wantY rfl rfl rfl) rfl rfl (x_move (by conv => lhs; whnf)) ?_
    refine l_gy (wantY rfl rfl rfl) rfl rfl (x_indexS Tryz.underlying9 rfl rfl (by omega) (by omega)) ?_
    refine l_gy (wantY rfl rfl rfl) rfl rfl (x_convI Tryz.underlying5 Tryz.underlying21 rfl) ?_
    refine l_gst (wantY rfl rfl rfl) rfl (s_callL cal194 (c194 (x := IntKind.i32.wrap (((x[0]'hs1).toNat : Nat) : Int)) _) ?_)
    rintro r w ⟨hr1, e1⟩
    have H := H.ext e1
    rw [i32_b] at hr1
    by_cases h11 : (97 : Int) ≤ (((x[0]'hs1).toNat : Nat) : Int) ∧ (((x[0]'hs1).toNat : Nat) : Int) ≤ 122
    ·
      obtain rfl : r = .bool true := by rw [hr1, decide_eq_true h11]
      refine l_rd rfl rfl (x_pick1 rfl (by conv => lhs; whnf)) ?_
      refine l_rd rfl rfl (x_move (by conv => lhs; whnf)) ?_
      refine l_gy (wantY rfl rfl rfl) rfl rfl (x_move (by conv => lhs; whnf)) ?_
      refine l_gy (wantY rfl rfl rfl) rfl rfl (x_move (by conv => lhs; whnf)) ?_
      refine l_gst (wantY rfl rfl rfl) rfl (s_callL cal195 (c195 (ts := wordsL) _ (H.sl 0 rfl)) ?_)
      rintro r w ⟨hr1, e1⟩
      have H := H.ext e1
      by_cases h16 : x ∈ wordsL
      ·
        obtain rfl : r = .bool true := by rw [hr1, decide_eq_true h16]
        refine l_gy (wantY rfl rfl rfl) rfl rfl (x_not rfl) ?_
        refine l_rd rfl rfl (x_pick1 rfl (by conv => lhs; whnf)) ?_
        refine l_rd rfl rfl (x_assign (by conv => lhs; whnf)) ?_
        refine WL.nil ?_
        refine WC.ret ?_
        refine atRet ?_
        exact RetM.one (v := .bool false) rfl rfl ⟨by rw [decide_eq_false (fun h => h.2.2 h16)], H.below 1 rfl⟩
      ·
        obtain rfl : r = .bool false := by rw [hr1, decide_eq_false h16]
        refine l_gy (wantY rfl rfl rfl) rfl rfl (x_not rfl) ?_
        refine l_rd rfl rfl (x_pick1 rfl (by conv => lhs; whnf)) ?_
        refine l_rd rfl rfl (x_assign (by conv => lhs; whnf)) ?_
        refine WL.nil ?_
        refine WC.ret ?_
        refine atRet ?_
        exact RetM.one (v := .bool true) rfl rfl ⟨by rw [decide_eq_true ⟨h6, ⟨hs1, h11⟩, h16⟩], H.below 1 rfl⟩
    ·
      obtain rfl : r = .bool false := by rw [hr1, decide_eq_false h11]
      refine l_rd rfl rfl (x_pick1 rfl (by conv => lhs; whnf)) ?_
      refine l_rd rfl rfl (x_move (by conv => lhs; whnf)) ?_
      refine l_gn (wantN rfl rfl rfl) rfl ?_
      refine l_gn (wantN rfl rfl rfl) rfl ?_
      refine l_gn (wantN rfl rfl rfl) rfl ?_
      refine l_gn (wantN rfl rfl rfl) rfl ?_
      refine l_rd rfl rfl (x_pick0 rfl ev_c) ?_
      refine l_rd rfl rfl (x_assign (by conv => lhs; whnf)) ?_
      refine WL.nil ?_
      refine WC.ret ?_
      refine atRet ?_
      exact RetM.one (v := .bool false) rfl rfl ⟨by rw [decide_eq_false (fun h => h11 (by obtain ⟨_, q⟩ := h.2.1; exact q))], H.below 1 rfl⟩
  ·
    obtain rfl : r = .bool false := by rw [hr1, decide_eq_false h6]
    refine l_rd rfl rfl (x_move (by conv => lhs; whnf)) ?_
    refine l_gn (wantN rfl rfl rfl) rfl ?_
    refine l_gn (wantN rfl rfl rfl) rfl ?_
    refine l_gn (wantN rfl rfl rfl) rfl ?_
    refine l_gn (wantN rfl rfl rfl) rfl ?_
    refine l_rd rfl rfl (x_pick0 rfl ev_c) ?_
    refine l_rd rfl rfl (x_move (by conv => lhs; whnf)) ?_
    refine l_gn (wantN rfl rfl rfl) rfl ?_
    refine l_gn (wantN rfl rfl rfl) rfl ?_
    refine l_gn (wantN rfl rfl rfl) rfl ?_
    refine l_gn (wantN rfl rfl rfl) rfl ?_
    refine l_rd rfl rfl (x_pick0 rfl ev_c) ?_
    refine l_rd rfl rfl (x_assign (by conv => lhs; whnf)) ?_
    refine WL.nil ?_
    refine WC.ret ?_
    refine atRet ?_
    exact RetM.one (v := .bool false) rfl rfl ⟨by rw [decide_eq_false (fun h => h6 h.1)], H.below 1 rfl⟩
def plb (x : Int) : Prop := 32 ≤ x ∧ x ≤ 126 ∧ x ≠ 34 ∧ x ≠ 92
def pln (x : ByteArray) : Prop := ∀ (i : Nat) (h : i < x.size), plb ((x[i].toNat : Nat) : Int)
noncomputable instance (x : ByteArray) : Decidable (pln x) := Classical.propDecidable _
def rgt (p : Pr) : Prop := if p.kind = 1 then p.text = ⟨#[]⟩ ∧ -1099511627776 ≤ p.num ∧ p.num ≤ 1099511627776 else p.kind = 2 ∧ p.num = 0 ∧ p.text.size ≤ 40 ∧ pln p.text
noncomputable instance (p : Pr) : Decidable (rgt p) := Classical.propDecidable _
theorem c236 {x : ByteArray} (w : World) (hsz : x.size ≤ 140737488355328) : CC Tryz.prog 236 [S x].toArray w (fun r w' => r = .bool (decide (pln x)) ∧ Ext w w') := by
  obtain ⟨w0, e0⟩ : ∃ w0, w0 = w := ⟨w, rfl⟩
  subst e0
  have H := Hd.start w0
  refine CC.of (N := 28) Tryz.func236 rfl rfl rfl ?_
  refine WC.seq ?_
  refine WC.region ?_
  refine l_rd rfl rfl (x_assign ev_c) ?_
  refine WL.nil ?_
  refine WC.seq ?_
  refine WC.seq ?_
  refine WC.region ?_
  refine l_rd rfl rfl (x_move (by conv => lhs; whnf)) ?_
  refine l_rd rfl rfl (x_lenStr Tryz.underlying9 rfl rfl) ?_
  refine l_rd rfl rfl (x_move ev_c) ?_
  refine WL.nil ?_
  refine WC.block ?_
  refine WC.loop (fun ρ ds w => ∃ k : Nat, k ≤ x.size ∧ (∀ (i : Nat) (h : i < x.size), i < k → plb ((x[i].toNat : Nat) : Int)) ∧ ρ 7 = I k ∧ ρ 6 = I x.size ∧ ρ 0 = S x ∧ ds = [] ∧ Hd (sy w0) w [fr w0]) (fun ρ w => x.size - (match ρ 7 with | .int _ k => k.toNat | _ => 0)) (⟨0, Nat.zero_le _, fun i _ h => absurd h (by omega), rfl, rfl, rfl, rfl, H⟩) ?_
  repeat clear H
  rintro ρ ds w ⟨k, hk, he, h7, h6, h0, rfl, H⟩
  refine WC.seq ?_
  refine WC.region ?_
  refine l_rdD rfl rfl (x_lss h7 h6) (fun h8 => ?_) (fun h8 => ?_)
  ·
    refine WL.nil ?_
    refine WC.seq ?_
    refine WC.cond1 rfl ?_
    refine WC.skip ?_
    refine WC.seq ?_
    refine WC.block ?_
    refine WC.seq ?_
    refine WC.region ?_
    refine l_rd rfl rfl (x_move h7) ?_
    refine l_rd rfl rfl (x_assign (by conv => lhs; whnf)) ?_
    refine WL.nil ?_
    refine WC.seq ?_
    have hkx : k < x.size := by omega
    refine WC.region ?_
    refine l_rd rfl rfl (x_move h0) ?_
    refine l_rd rfl rfl (x_move (by conv => lhs; whnf)) ?_
    refine l_rd rfl rfl (x_indexSN Tryz.underlying9 rfl rfl (by omega)) ?_
    refine l_rd rfl rfl (x_assign (by conv => lhs; whnf)) ?_
    refine WL.nil ?_
    refine WC.seq ?_
    refine WC.region ?_
    refine l_rd rfl rfl (x_move (by conv => lhs; whnf)) ?_
    refine l_rdD rfl rfl (x_lss rfl rfl) (fun h14 => ?_) (fun h14 => ?_)
    ·
      refine l_rd rfl rfl (x_move (by conv => lhs; whnf)) ?_
      refine l_gn (wantN rfl rfl rfl) rfl ?_
      refine l_gn (wantN rfl rfl rfl) rfl ?_
      refine l_rd rfl rfl (x_pick1 rfl ev_c) ?_
      refine l_rd rfl rfl (x_move (by conv => lhs; whnf)) ?_
      refine l_gn (wantN rfl rfl rfl) rfl ?_
      refine l_gn (wantN rfl rfl rfl) rfl ?_
      refine l_rd rfl rfl (x_pick1 rfl ev_c) ?_
      refine l_rd rfl rfl (x_move (by conv => lhs; whnf)) ?_
      refine l_gn (wantN rfl rfl rfl) rfl ?_
      refine l_gn (wantN rfl rfl rfl) rfl ?_
      refine l_rd rfl rfl (x_pick1 rfl ev_c) ?_
      refine WL.nil ?_
      refine WC.cond1 rfl ?_
      refine WC.seq ?_
      refine WC.region ?_
      refine l_rd rfl rfl (x_assign ev_c) ?_
      refine WL.nil ?_
      refine WC.ret ?_
      refine atRet ?_
      exact RetM.one rfl (by (conv => lhs; whnf); try rfl) (⟨by rw [decide_eq_false (fun h => by have h2 := h k hkx; unfold plb at h2; omega)], H.below 0 rfl⟩)
    ·
      refine l_rd rfl rfl (x_move (by conv => lhs; whnf)) ?_
      refine l_gy (wantY rfl rfl rfl) rfl rfl (x_move (by conv => lhs; whnf)) ?_
      refine l_gyD (wantY rfl rfl rfl) rfl rfl (x_gtr rfl rfl) (fun h17 => ?_) (fun h17 => ?_)
      ·
        refine l_rd rfl rfl (x_pick0 rfl (by conv => lhs; whnf)) ?_
        refine l_rd rfl rfl (x_move (by conv => lhs; whnf)) ?_
        refine l_gn (wantN rfl rfl rfl) rfl ?_
        refine l_gn (wantN rfl rfl rfl) rfl ?_
        refine l_rd rfl rfl (x_pick1 rfl ev_c) ?_
        refine l_rd rfl rfl (x_move (by conv => lhs; whnf)) ?_
        refine l_gn (wantN rfl rfl rfl) rfl ?_
        refine l_gn (wantN rfl rfl rfl) rfl ?_
        refine l_rd rfl rfl (x_pick1 rfl ev_c) ?_
        refine WL.nil ?_
        refine WC.cond1 rfl ?_
        refine WC.seq ?_
        refine WC.region ?_
        refine l_rd rfl rfl (x_assign ev_c) ?_
        refine WL.nil ?_
        refine WC.ret ?_
        refine atRet ?_
        exact RetM.one rfl (by (conv => lhs; whnf); try rfl) (⟨by rw [decide_eq_false (fun h => by have h2 := h k hkx; unfold plb at h2; omega)], H.below 0 rfl⟩)
      ·
        refine l_rd rfl rfl (x_pick0 rfl (by conv => lhs; whnf)) ?_
        refine l_rd rfl rfl (x_move (by conv => lhs; whnf)) ?_
        refine l_gy (wantY rfl rfl rfl) rfl rfl (x_move (by conv => lhs; whnf)) ?_
        refine l_gyD (wantY rfl rfl rfl) rfl rfl (x_eql rfl rfl) (fun h21 => ?_) (fun h21 => ?_)
        ·
          refine l_rd rfl rfl (x_pick0 rfl (by conv => lhs; whnf)) ?_
          refine l_rd rfl rfl (x_move (by conv => lhs; whnf)) ?_
          refine l_gn (wantN rfl rfl rfl) rfl ?_
          refine l_gn (wantN rfl rfl rfl) rfl ?_
          refine l_rd rfl rfl (x_pick1 rfl ev_c) ?_
          refine WL.nil ?_
          refine WC.cond1 rfl ?_
          refine WC.seq ?_
          refine WC.region ?_
          refine l_rd rfl rfl (x_assign ev_c) ?_
          refine WL.nil ?_
          refine WC.ret ?_
          refine atRet ?_
          exact RetM.one rfl (by (conv => lhs; whnf); try rfl) (⟨by rw [decide_eq_false (fun h => by have h2 := h k hkx; unfold plb at h2; omega)], H.below 0 rfl⟩)
        ·
          refine l_rd rfl rfl (x_pick0 rfl (by conv => lhs; whnf)) ?_
          refine l_rd rfl rfl (x_move (by conv => lhs; whnf)) ?_
          refine l_gy (wantY rfl rfl rfl) rfl rfl (x_move (by conv => lhs; whnf)) ?_
          refine l_gyD (wantY rfl rfl rfl) rfl rfl (x_eql rfl rfl) (fun h25 => ?_) (fun h25 => ?_)
          ·
            refine l_rd rfl rfl (x_pick0 rfl (by conv => lhs; whnf)) ?_
            refine WL.nil ?_
            refine WC.cond1 rfl ?_
            refine WC.seq ?_
            refine WC.region ?_
            refine l_rd rfl rfl (x_assign ev_c) ?_
            refine WL.nil ?_
            refine WC.ret ?_
            refine atRet ?_
            exact RetM.one rfl (by (conv => lhs; whnf); try rfl) (⟨by rw [decide_eq_false (fun h => by have h2 := h k hkx; unfold plb at h2; omega)], H.below 0 rfl⟩)
          ·
            refine l_rd rfl rfl (x_pick0 rfl (by conv => lhs; whnf)) ?_
            refine WL.nil ?_
            refine WC.cond0 rfl ?_
            refine WC.skip ?_
            refine WC.region ?_
            refine l_rd rfl rfl (x_add h7 rfl (by omega) (by omega)) ?_
            refine l_rd rfl rfl (x_move (by conv => lhs; whnf)) ?_
            refine WL.nil ?_
            refine WC.again (⟨k + 1, by omega, fun i hi hik => by
                  by_cases e : i = k
                  · subst e; unfold plb; omega
                  · exact he i hi (by omega), rfl, h6, h0, rfl, H⟩) (by show _ - _ < _ - _; rw [h7]; show x.size - ((k : Int) + 1).toNat < x.size - (k : Int).toNat; omega)
  ·
    refine WL.nil ?_
    refine WC.seq ?_
    refine WC.cond0 rfl ?_
    refine WC.exit ?_
    refine WC.seq ?_
    refine WC.region ?_
    refine l_rd rfl rfl (x_assign ev_c) ?_
    refine WL.nil ?_
    refine WC.ret ?_
    refine atRet ?_
    exact RetM.one rfl (by (conv => lhs; whnf); try rfl) (⟨by rw [decide_eq_true (show pln x from fun i hi => he i hi (by omega))], H.below 0 rfl⟩)
theorem c196 {p : Pr} (w : World) (hsz : p.text.size ≤ 140737488355328) : CC Tryz.prog 196 [.agg #[I p.kind, I p.num, S p.text]].toArray w (fun r w' => r = .bool (decide (rgt p)) ∧ Ext w w') := by
  obtain ⟨w0, e0⟩ : ∃ w0, w0 = w := ⟨w, rfl⟩
  subst e0
  have H := Hd.start w0
  refine CC.of (N := 36) Tryz.func196 rfl rfl rfl ?_
  refine WC.seq ?_
  refine WC.region ?_
  refine l_st rfl (s_box (by conv => lhs; whnf) H fun b1 w H => ?_)
  refine l_rd rfl rfl (x_assign ev_c) ?_
  refine WL.nil ?_
  refine WC.seq ?_
  refine WC.seq ?_
  refine WC.region ?_
  refine l_rd rfl rfl (x_fieldAddr Tryz.underlying185 rfl rfl ty183 (by decide) rfl) ?_
  refine l_rd rfl rfl (x_load Tryz.underlying183 rfl rfl (H.cellL 0 rfl rfl)) ?_
  refine WL.nil ?_
  refine WC.block ?_
  refine WC.seq ?_
  refine WC.region ?_
  refine l_rdD rfl rfl (x_eql rfl rfl) (fun h6 => ?_) (fun h6 => ?_)
  ·
    refine l_rd rfl rfl (x_assign (by conv => lhs; whnf)) ?_
    refine WL.nil ?_
    refine WC.cond1 rfl ?_
    refine WC.seq ?_
    refine WC.region ?_
    refine l_rd rfl rfl (x_fieldAddr Tryz.underlying185 rfl rfl ty9 (by decide) rfl) ?_
    refine l_rd rfl rfl (x_load Tryz.underlying9 rfl rfl (H.cellL 0 rfl rfl)) ?_
    refine l_rdD rfl rfl (x_eqlS rfl rfl) (fun h9 => ?_) (fun h9 => ?_)
    ·
      refine l_rd rfl rfl (x_move (by conv => lhs; whnf)) ?_
      refine l_gy (wantY rfl rfl rfl) rfl rfl (x_fieldAddr Tryz.underlying185 rfl rfl ty3 (by decide) rfl) ?_
      refine l_gy (wantY rfl rfl rfl) rfl rfl (x_load Tryz.underlying3 rfl rfl (H.cellL 0 rfl rfl)) ?_
      refine l_gyD (wantY rfl rfl rfl) rfl rfl (x_geq rfl rfl) (fun h13 => ?_) (fun h13 => ?_)
      ·
        refine l_rd rfl rfl (x_pick1 rfl (by conv => lhs; whnf)) ?_
        refine l_rd rfl rfl (x_move (by conv => lhs; whnf)) ?_
        refine l_gy (wantY rfl rfl rfl) rfl rfl (x_fieldAddr Tryz.underlying185 rfl rfl ty3 (by decide) rfl) ?_
        refine l_gy (wantY rfl rfl rfl) rfl rfl (x_load Tryz.underlying3 rfl rfl (H.cellL 0 rfl rfl)) ?_
        refine l_gyD (wantY rfl rfl rfl) rfl rfl (x_leq rfl rfl) (fun h18 => ?_) (fun h18 => ?_)
        ·
          refine l_rd rfl rfl (x_pick1 rfl (by conv => lhs; whnf)) ?_
          refine l_rd rfl rfl (x_assign (by conv => lhs; whnf)) ?_
          refine WL.nil ?_
          refine WC.ret ?_
          refine atRet ?_
          exact RetM.one rfl (by (conv => lhs; whnf); try rfl) (⟨by rw [decide_eq_true (by unfold rgt; rw [if_pos h6]; exact ⟨h9, by omega, by omega⟩)], H.below 1 rfl⟩)
        ·
          refine l_rd rfl rfl (x_pick1 rfl (by conv => lhs; whnf)) ?_
          refine l_rd rfl rfl (x_assign (by conv => lhs; whnf)) ?_
          refine WL.nil ?_
          refine WC.ret ?_
          refine atRet ?_
          exact RetM.one rfl (by (conv => lhs; whnf); try rfl) (⟨by rw [decide_eq_false (by unfold rgt; rw [if_pos h6]; rintro ⟨_, _, _⟩; omega)], H.below 1 rfl⟩)
      ·
        refine l_rd rfl rfl (x_pick1 rfl (by conv => lhs; whnf)) ?_
        refine l_rd rfl rfl (x_move (by conv => lhs; whnf)) ?_
        refine l_gn (wantN rfl rfl rfl) rfl ?_
        refine l_gn (wantN rfl rfl rfl) rfl ?_
        refine l_gn (wantN rfl rfl rfl) rfl ?_
        refine l_rd rfl rfl (x_pick0 rfl ev_c) ?_
        refine l_rd rfl rfl (x_assign (by conv => lhs; whnf)) ?_
        refine WL.nil ?_
        refine WC.ret ?_
        refine atRet ?_
        exact RetM.one rfl (by (conv => lhs; whnf); try rfl) (⟨by rw [decide_eq_false (by unfold rgt; rw [if_pos h6]; rintro ⟨_, _, _⟩; omega)], H.below 1 rfl⟩)
    ·
      refine l_rd rfl rfl (x_move (by conv => lhs; whnf)) ?_
      refine l_gn (wantN rfl rfl rfl) rfl ?_
      refine l_gn (wantN rfl rfl rfl) rfl ?_
      refine l_gn (wantN rfl rfl rfl) rfl ?_
      refine l_rd rfl rfl (x_pick0 rfl ev_c) ?_
      refine l_rd rfl rfl (x_move (by conv => lhs; whnf)) ?_
      refine l_gn (wantN rfl rfl rfl) rfl ?_
      refine l_gn (wantN rfl rfl rfl) rfl ?_
      refine l_gn (wantN rfl rfl rfl) rfl ?_
      refine l_rd rfl rfl (x_pick0 rfl ev_c) ?_
      refine l_rd rfl rfl (x_assign (by conv => lhs; whnf)) ?_
      refine WL.nil ?_
      refine WC.ret ?_
      refine atRet ?_
      exact RetM.one rfl (by (conv => lhs; whnf); try rfl) (⟨by rw [decide_eq_false (by unfold rgt; rw [if_pos h6]; exact fun q => h9 q.1)], H.below 1 rfl⟩)
  ·
    refine l_rd rfl rfl (x_assign (by conv => lhs; whnf)) ?_
    refine WL.nil ?_
    refine WC.cond0 rfl ?_
    refine WC.seq ?_
    refine WC.region ?_
    refine l_rdD rfl rfl (x_eql rfl rfl) (fun h21 => ?_) (fun h21 => ?_)
    ·
      refine l_rd rfl rfl (x_assign (by conv => lhs; whnf)) ?_
      refine WL.nil ?_
      refine WC.cond1 rfl ?_
      refine WC.seq ?_
      refine WC.region ?_
      refine l_rd rfl rfl (x_fieldAddr Tryz.underlying185 rfl rfl ty3 (by decide) rfl) ?_
      refine l_rd rfl rfl (x_load Tryz.underlying3 rfl rfl (H.cellL 0 rfl rfl)) ?_
      refine l_rdD rfl rfl (x_eql rfl rfl) (fun h24 => ?_) (fun h24 => ?_)
      ·
        refine l_rd rfl rfl (x_move (by conv => lhs; whnf)) ?_
        refine l_gy (wantY rfl rfl rfl) rfl rfl (x_fieldAddr Tryz.underlying185 rfl rfl ty9 (by decide) rfl) ?_
        refine l_gy (wantY rfl rfl rfl) rfl rfl (x_load Tryz.underlying9 rfl rfl (H.cellL 0 rfl rfl)) ?_
        refine l_gy (wantY rfl rfl rfl) rfl rfl (x_lenStr Tryz.underlying9 rfl rfl) ?_
        refine l_gyD (wantY rfl rfl rfl) rfl rfl (x_leq rfl rfl) (fun h29 => ?_) (fun h29 => ?_)
        ·
          refine l_rd rfl rfl (x_pick1 rfl (by conv => lhs; whnf)) ?_
          refine l_rd rfl rfl (x_move (by conv => lhs; whnf)) ?_
          refine l_gy (wantY rfl rfl rfl) rfl rfl (x_fieldAddr Tryz.underlying185 rfl rfl ty9 (by decide) rfl) ?_
          refine l_gy (wantY rfl rfl rfl) rfl rfl (x_load Tryz.underlying9 rfl rfl (H.cellL 0 rfl rfl)) ?_
          refine l_gst (wantY rfl rfl rfl) rfl (s_callL cal236 (c236 _ hsz) ?_)
          rintro r w ⟨hr1, e1⟩
          have H := H.ext e1
          by_cases h34 : pln p.text
          ·
            obtain rfl : r = .bool true := by rw [hr1, decide_eq_true h34]
            refine l_rd rfl rfl (x_pick1 rfl (by conv => lhs; whnf)) ?_
            refine l_rd rfl rfl (x_assign (by conv => lhs; whnf)) ?_
            refine WL.nil ?_
            refine WC.ret ?_
            refine atRet ?_
            exact RetM.one rfl (by (conv => lhs; whnf); try rfl) (⟨by rw [decide_eq_true (by unfold rgt; rw [if_neg h6]; exact ⟨h21, h24, by omega, h34⟩)], H.below 1 rfl⟩)
          ·
            obtain rfl : r = .bool false := by rw [hr1, decide_eq_false h34]
            refine l_rd rfl rfl (x_pick1 rfl (by conv => lhs; whnf)) ?_
            refine l_rd rfl rfl (x_assign (by conv => lhs; whnf)) ?_
            refine WL.nil ?_
            refine WC.ret ?_
            refine atRet ?_
            exact RetM.one rfl (by (conv => lhs; whnf); try rfl) (⟨by rw [decide_eq_false (by unfold rgt; rw [if_neg h6]; exact fun q => h34 q.2.2.2)], H.below 1 rfl⟩)
        ·
          refine l_rd rfl rfl (x_pick1 rfl (by conv => lhs; whnf)) ?_
          refine l_rd rfl rfl (x_move (by conv => lhs; whnf)) ?_
          refine l_gn (wantN rfl rfl rfl) rfl ?_
          refine l_gn (wantN rfl rfl rfl) rfl ?_
          refine l_gn (wantN rfl rfl rfl) rfl ?_
          refine l_rd rfl rfl (x_pick0 rfl ev_c) ?_
          refine l_rd rfl rfl (x_assign (by conv => lhs; whnf)) ?_
          refine WL.nil ?_
          refine WC.ret ?_
          refine atRet ?_
          exact RetM.one rfl (by (conv => lhs; whnf); try rfl) (⟨by rw [decide_eq_false (by unfold rgt; rw [if_neg h6]; rintro ⟨_, _, _, _⟩; omega)], H.below 1 rfl⟩)
      ·
        refine l_rd rfl rfl (x_move (by conv => lhs; whnf)) ?_
        refine l_gn (wantN rfl rfl rfl) rfl ?_
        refine l_gn (wantN rfl rfl rfl) rfl ?_
        refine l_gn (wantN rfl rfl rfl) rfl ?_
        refine l_gn (wantN rfl rfl rfl) rfl ?_
        refine l_rd rfl rfl (x_pick0 rfl ev_c) ?_
        refine l_rd rfl rfl (x_move (by conv => lhs; whnf)) ?_
        refine l_gn (wantN rfl rfl rfl) rfl ?_
        refine l_gn (wantN rfl rfl rfl) rfl ?_
        refine l_gn (wantN rfl rfl rfl) rfl ?_
        refine l_rd rfl rfl (x_pick0 rfl ev_c) ?_
        refine l_rd rfl rfl (x_assign (by conv => lhs; whnf)) ?_
        refine WL.nil ?_
        refine WC.ret ?_
        refine atRet ?_
        exact RetM.one rfl (by (conv => lhs; whnf); try rfl) (⟨by rw [decide_eq_false (by unfold rgt; rw [if_neg h6]; exact fun q => h24 q.2.1)], H.below 1 rfl⟩)
    ·
      refine l_rd rfl rfl (x_assign (by conv => lhs; whnf)) ?_
      refine WL.nil ?_
      refine WC.cond0 rfl ?_
      refine WC.skip ?_
      refine WC.seq ?_
      refine WC.region ?_
      refine l_rd rfl rfl (x_assign ev_c) ?_
      refine WL.nil ?_
      refine WC.ret ?_
      refine atRet ?_
      exact RetM.one rfl (by (conv => lhs; whnf); try rfl) (⟨by rw [decide_eq_false (by unfold rgt; rw [if_neg h6]; exact fun q => h21 q.1)], H.below 1 rfl⟩)
theorem c197 {lo hi : Int} {v : Value} {xs : List Int} (w : World) (hx : RdL w v I xs) : CC Tryz.prog 197 [I lo, I hi, v].toArray w (fun r w' => r = .bool (decide (∀ y ∈ xs, lo ≤ y ∧ y ≤ hi)) ∧ Ext w w') := by
  obtain ⟨w0, e0⟩ : ∃ w0, w0 = w := ⟨w, rfl⟩
  subst e0
  have H := Hd.start w0
  obtain ⟨a, c, rfl⟩ := hx.shape
  have hle := hx.le
  refine CC.of (N := 24) Tryz.func197 rfl rfl rfl ?_
  refine WC.seq ?_
  refine WC.region ?_
  refine l_rd rfl rfl (x_assign ev_c) ?_
  refine WL.nil ?_
  refine WC.seq ?_
  refine WC.seq ?_
  refine WC.region ?_
  refine l_rd rfl rfl (x_move (by conv => lhs; whnf)) ?_
  refine l_rd rfl rfl (x_lenSlice Tryz.underlying176 rfl rfl) ?_
  refine l_rd rfl rfl (x_move ev_c) ?_
  refine WL.nil ?_
  refine WC.block ?_
  refine WC.loop (fun ρ ds w => ∃ k : Nat, k ≤ xs.length ∧ (∀ j y, j < k → xs[j]? = some y → lo ≤ y ∧ y ≤ hi) ∧ ρ 11 = I k ∧ ρ 10 = I xs.length ∧ ρ 9 = .slice a xs.length c ∧ ρ 0 = I lo ∧ ρ 1 = I hi ∧ ds = [] ∧ Hd (sy w0) w [fr w0]) (fun ρ w => xs.length - (match ρ 11 with | .int _ k => k.toNat | _ => 0)) (⟨0, Nat.zero_le _, fun j y h => absurd h (by omega), rfl, rfl, rfl, rfl, rfl, rfl, H⟩) ?_
  repeat clear H
  rintro ρ ds w ⟨k, hk, he, h11, h10, h9, h0, h1, rfl, H⟩
  refine WC.seq ?_
  refine WC.region ?_
  refine l_rdD rfl rfl (x_lss h11 h10) (fun h12 => ?_) (fun h12 => ?_)
  ·
    refine WL.nil ?_
    refine WC.seq ?_
    refine WC.cond1 rfl ?_
    refine WC.skip ?_
    refine WC.seq ?_
    refine WC.block ?_
    refine WC.seq ?_
    obtain ⟨x, hxk⟩ := lt_get (show k < xs.length by omega)
    obtain ⟨b1, o1, rfl, hc1⟩ := hx.el hxk
    refine WC.region ?_
    refine l_rd rfl rfl (x_indexAddr Tryz.underlying176 ty3 h9 h11 (by omega) (by omega)) ?_
    refine l_rd rfl rfl (x_load Tryz.underlying3 rfl rfl ((H.old 0 rfl).cell hc1)) ?_
    refine l_rd rfl rfl (x_assign (by conv => lhs; whnf)) ?_
    refine WL.nil ?_
    refine WC.seq ?_
    refine WC.region ?_
    refine l_rd rfl rfl (x_move (by conv => lhs; whnf)) ?_
    refine l_rd rfl rfl (x_move h0) ?_
    refine l_rdD rfl rfl (x_lss rfl rfl) (fun h17 => ?_) (fun h17 => ?_)
    ·
      refine l_rd rfl rfl (x_move (by conv => lhs; whnf)) ?_
      refine l_gn (wantN rfl rfl rfl) rfl ?_
      refine l_gn (wantN rfl rfl rfl) rfl ?_
      refine l_gn (wantN rfl rfl rfl) rfl ?_
      refine l_rd rfl rfl (x_pick1 rfl ev_c) ?_
      refine WL.nil ?_
      refine WC.cond1 rfl ?_
      refine WC.seq ?_
      refine WC.region ?_
      refine l_rd rfl rfl (x_assign ev_c) ?_
      refine WL.nil ?_
      refine WC.ret ?_
      refine atRet ?_
      exact RetM.one rfl (by (conv => lhs; whnf); try rfl) (⟨by rw [decide_eq_false (fun h => by have h2 := h x (List.mem_of_getElem? hxk); omega)], H.below 0 rfl⟩)
    ·
      refine l_rd rfl rfl (x_move (by conv => lhs; whnf)) ?_
      refine l_gy (wantY rfl rfl rfl) rfl rfl (x_move (by conv => lhs; whnf)) ?_
      refine l_gy (wantY rfl rfl rfl) rfl rfl (x_move h1) ?_
      refine l_gyD (wantY rfl rfl rfl) rfl rfl (x_gtr rfl rfl) (fun h21 => ?_) (fun h21 => ?_)
      ·
        refine l_rd rfl rfl (x_pick0 rfl (by conv => lhs; whnf)) ?_
        refine WL.nil ?_
        refine WC.cond1 rfl ?_
        refine WC.seq ?_
        refine WC.region ?_
        refine l_rd rfl rfl (x_assign ev_c) ?_
        refine WL.nil ?_
        refine WC.ret ?_
        refine atRet ?_
        exact RetM.one rfl (by (conv => lhs; whnf); try rfl) (⟨by rw [decide_eq_false (fun h => by have h2 := h x (List.mem_of_getElem? hxk); omega)], H.below 0 rfl⟩)
      ·
        refine l_rd rfl rfl (x_pick0 rfl (by conv => lhs; whnf)) ?_
        refine WL.nil ?_
        refine WC.cond0 rfl ?_
        refine WC.skip ?_
        refine WC.region ?_
        refine l_rd rfl rfl (x_add h11 rfl (by omega) (by omega)) ?_
        refine l_rd rfl rfl (x_move (by conv => lhs; whnf)) ?_
        refine WL.nil ?_
        refine WC.again (⟨k + 1, by omega, fun j y hj hy => by
              by_cases e : j = k
              · subst e; rw [hxk] at hy; cases hy; omega
              · exact he j y (by omega) hy, rfl, h10, h9, h0, h1, rfl, H⟩) (by show _ - _ < _ - _; rw [h11]; show xs.length - ((k : Int) + 1).toNat < xs.length - (k : Int).toNat; omega)
  ·
    refine WL.nil ?_
    refine WC.seq ?_
    refine WC.cond0 rfl ?_
    refine WC.exit ?_
    refine WC.seq ?_
    refine WC.region ?_
    refine l_rd rfl rfl (x_assign ev_c) ?_
    refine WL.nil ?_
    refine WC.ret ?_
    refine atRet ?_
    exact RetM.one rfl (by (conv => lhs; whnf); try rfl) (⟨by rw [decide_eq_true (fun y hy => by obtain ⟨j, hj⟩ := List.getElem?_of_mem hy; exact he j y (by have := (List.getElem?_eq_some_iff.1 hj).1; omega) hj)], H.below 0 rfl⟩)
theorem c146 {x : Int} (w : World) : CC Tryz.prog 146 [I x].toArray w (fun r w' => r = .bool (decide (0 ≤ x ∧ x ≤ 1099511627776)) ∧ Ext w w') := by
  obtain ⟨w0, e0⟩ : ∃ w0, w0 = w := ⟨w, rfl⟩
  subst e0
  have H := Hd.start w0
  refine CC.of (N := 6) Tryz.func146 rfl rfl rfl ?_
  refine WC.seq ?_
  refine WC.region ?_
  refine l_rd rfl rfl (x_assign ev_c) ?_
  refine WL.nil ?_
  refine WC.seq ?_
  refine WC.region ?_
  refine l_rd rfl rfl (x_move (by conv => lhs; whnf)) ?_
  refine l_st rfl (s_build1 Tryz.underlying176 ty3 rfl (by conv => lhs; whnf) rfl H fun b4 w H => ?_)
  refine l_st rfl (s_callL cal197 (c197 (xs := [x]) _ (H.sl 0 rfl)) ?_)
  rintro _ w ⟨rfl, e1⟩
  have H := H.ext e1
  refine l_rd rfl rfl (x_assign (by conv => lhs; whnf)) ?_
  refine WL.nil ?_
  refine WC.ret ?_
  refine atRet ?_
  exact RetM.one rfl (by (conv => lhs; whnf); try rfl) (⟨by congr 1; exact decide_eq_decide.2 (by simp), H.below 1 rfl⟩)
theorem c99 {p : Pr} (w : World) (hsz : p.text.size ≤ 140737488355328) : CC Tryz.prog 99 [.agg #[I p.kind, I p.num, S p.text]].toArray w (fun r w' => r = .bool (decide (rgt p)) ∧ Ext w w') := by
  obtain ⟨w0, e0⟩ : ∃ w0, w0 = w := ⟨w, rfl⟩
  subst e0
  have H := Hd.start w0
  refine CC.of (N := 67) Tryz.func99 rfl rfl rfl ?_
  refine WC.seq ?_
  refine WC.region ?_
  refine l_st rfl (s_box (by conv => lhs; whnf) H fun b1 w H => ?_)
  refine l_rd rfl rfl (x_assign ev_c) ?_
  refine WL.nil ?_
  refine WC.seq ?_
  refine WC.seq ?_
  refine WC.region ?_
  refine l_rd rfl rfl (x_fieldAddr Tryz.underlying185 rfl rfl ty183 (by decide) rfl) ?_
  refine l_rd rfl rfl (x_load Tryz.underlying183 rfl rfl (H.cellL 0 rfl rfl)) ?_
  refine l_rdD rfl rfl (x_eql rfl rfl) (fun h6 => ?_) (fun h6 => ?_)
  ·
    refine WL.nil ?_
    refine WC.cond1 rfl ?_
    refine WC.seq ?_
    refine WC.region ?_
    refine l_rd rfl rfl (x_fieldAddr Tryz.underlying185 rfl rfl ty3 (by decide) rfl) ?_
    refine l_rd rfl rfl (x_load Tryz.underlying3 rfl rfl (H.cellL 0 rfl rfl)) ?_
    refine l_rdD rfl rfl (x_geq rfl rfl) (fun h9 => ?_) (fun h9 => ?_)
    ·
      refine l_rd rfl rfl (x_move (by conv => lhs; whnf)) ?_
      refine l_gy (wantY rfl rfl rfl) rfl rfl (x_fieldAddr Tryz.underlying185 rfl rfl ty3 (by decide) rfl) ?_
      refine l_gy (wantY rfl rfl rfl) rfl rfl (x_load Tryz.underlying3 rfl rfl (H.cellL 0 rfl rfl)) ?_
      refine l_gyD (wantY rfl rfl rfl) rfl rfl (x_leq rfl rfl) (fun h13 => ?_) (fun h13 => ?_)
      ·
        refine l_rd rfl rfl (x_pick1 rfl (by conv => lhs; whnf)) ?_
        refine l_rd rfl rfl (x_move (by conv => lhs; whnf)) ?_
        refine l_gy (wantY rfl rfl rfl) rfl rfl (x_fieldAddr Tryz.underlying185 rfl rfl ty9 (by decide) rfl) ?_
        refine l_gy (wantY rfl rfl rfl) rfl rfl (x_load Tryz.underlying9 rfl rfl (H.cellL 0 rfl rfl)) ?_
        refine l_gyD (wantY rfl rfl rfl) rfl rfl (x_eqlS rfl rfl) (fun h18 => ?_) (fun h18 => ?_)
        ·
          refine l_rd rfl rfl (x_pick1 rfl (by conv => lhs; whnf)) ?_
          refine l_rd rfl rfl (x_assign (by conv => lhs; whnf)) ?_
          refine WL.nil ?_
          refine WC.ret ?_
          refine atRet ?_
          exact RetM.one rfl (by (conv => lhs; whnf); try rfl) (⟨by rw [decide_eq_true (by unfold rgt; rw [if_pos h6]; exact ⟨h18, by omega, by omega⟩)], H.below 1 rfl⟩)
        ·
          refine l_rd rfl rfl (x_pick1 rfl (by conv => lhs; whnf)) ?_
          refine l_rd rfl rfl (x_assign (by conv => lhs; whnf)) ?_
          refine WL.nil ?_
          refine WC.ret ?_
          refine atRet ?_
          exact RetM.one rfl (by (conv => lhs; whnf); try rfl) (⟨by rw [decide_eq_false (by unfold rgt; rw [if_pos h6]; exact fun q => h18 q.1)], H.below 1 rfl⟩)
      ·
        refine l_rd rfl rfl (x_pick1 rfl (by conv => lhs; whnf)) ?_
        refine l_rd rfl rfl (x_move (by conv => lhs; whnf)) ?_
        refine l_gn (wantN rfl rfl rfl) rfl ?_
        refine l_gn (wantN rfl rfl rfl) rfl ?_
        refine l_gn (wantN rfl rfl rfl) rfl ?_
        refine l_rd rfl rfl (x_pick0 rfl ev_c) ?_
        refine l_rd rfl rfl (x_assign (by conv => lhs; whnf)) ?_
        refine WL.nil ?_
        refine WC.ret ?_
        refine atRet ?_
        exact RetM.one rfl (by (conv => lhs; whnf); try rfl) (⟨by rw [decide_eq_false (by unfold rgt; rw [if_pos h6]; rintro ⟨_, _, _⟩; omega)], H.below 1 rfl⟩)
    ·
      refine l_rd rfl rfl (x_move (by conv => lhs; whnf)) ?_
      refine l_gn (wantN rfl rfl rfl) rfl ?_
      refine l_gn (wantN rfl rfl rfl) rfl ?_
      refine l_gn (wantN rfl rfl rfl) rfl ?_
      refine l_rd rfl rfl (x_pick0 rfl ev_c) ?_
      refine l_rd rfl rfl (x_move (by conv => lhs; whnf)) ?_
      refine l_gn (wantN rfl rfl rfl) rfl ?_
      refine l_gn (wantN rfl rfl rfl) rfl ?_
      refine l_gn (wantN rfl rfl rfl) rfl ?_
      refine l_rd rfl rfl (x_pick0 rfl ev_c) ?_
      refine l_rd rfl rfl (x_assign (by conv => lhs; whnf)) ?_
      refine WL.nil ?_
      refine WC.ret ?_
      refine atRet ?_
      exact RetM.one rfl (by (conv => lhs; whnf); try rfl) (⟨by rw [decide_eq_false (by unfold rgt; rw [if_pos h6]; rintro ⟨_, _, _⟩; omega)], H.below 1 rfl⟩)
  ·
    refine WL.nil ?_
    refine WC.cond0 rfl ?_
    refine WC.skip ?_
    refine WC.seq ?_
    refine WC.seq ?_
    refine WC.region ?_
    refine l_rd rfl rfl (x_assign ev_c) ?_
    refine WL.nil ?_
    refine WC.block ?_
    refine WC.loop (fun ρ ds w => ∃ k : Nat, k ≤ p.text.size ∧ (∀ (i : Nat) (h : i < p.text.size), i < k → plb ((p.text[i].toNat : Nat) : Int)) ∧ ρ 3 = I k ∧ ρ 1 = .pointer (some ⟨b1, 0, none⟩) ∧ ds = [] ∧ Hd (sy w0) w [pt b1 (.cells #[I p.kind, I p.num, S p.text] 185 (0, 0)), fr w0]) (fun ρ w => p.text.size - (match ρ 3 with | .int _ k => k.toNat | _ => 0)) (⟨0, Nat.zero_le _, fun i _ h => absurd h (by omega), rfl, rfl, rfl, H⟩) ?_
    repeat clear H
    rintro ρ ds w ⟨k, hk, he, h3, h1, rfl, H⟩
    refine WC.seq ?_
    refine WC.seq ?_
    refine WC.region ?_
    refine l_rd rfl rfl (x_move h3) ?_
    refine l_rd rfl rfl (x_fieldAddr Tryz.underlying185 rfl rfl ty9 (by decide) h1) ?_
    refine l_rd rfl rfl (x_load Tryz.underlying9 rfl rfl (H.cellL 0 rfl rfl)) ?_
    refine l_rd rfl rfl (x_lenStr Tryz.underlying9 rfl rfl) ?_
    refine l_rdD rfl rfl (x_lss rfl rfl) (fun h24 => ?_) (fun h24 => ?_)
    ·
      refine WL.nil ?_
      refine WC.cond1 rfl ?_
      refine WC.skip ?_
      refine WC.seq ?_
      refine WC.block ?_
      refine WC.seq ?_
      have hkx : k < p.text.size := by omega
      refine WC.region ?_
      refine l_rd rfl rfl (x_fieldAddr Tryz.underlying185 rfl rfl ty9 (by decide) h1) ?_
      refine l_rd rfl rfl (x_load Tryz.underlying9 rfl rfl (H.cellL 0 rfl rfl)) ?_
      refine l_rd rfl rfl (x_move h3) ?_
      refine l_rd rfl rfl (x_indexSN Tryz.underlying9 rfl rfl (by omega)) ?_
      refine l_rdD rfl rfl (x_lss rfl rfl) (fun h31 => ?_) (fun h31 => ?_)
      ·
        refine l_rd rfl rfl (x_move (by conv => lhs; whnf)) ?_
        refine l_gn (wantN rfl rfl rfl) rfl ?_
        refine l_gn (wantN rfl rfl rfl) rfl ?_
        refine l_gn (wantN rfl rfl rfl) rfl ?_
        refine l_gn (wantN rfl rfl rfl) rfl ?_
        refine l_gn (wantN rfl rfl rfl) rfl ?_
        refine l_rd rfl rfl (x_pick1 rfl ev_c) ?_
        refine l_rd rfl rfl (x_move (by conv => lhs; whnf)) ?_
        refine l_gn (wantN rfl rfl rfl) rfl ?_
        refine l_gn (wantN rfl rfl rfl) rfl ?_
        refine l_gn (wantN rfl rfl rfl) rfl ?_
        refine l_gn (wantN rfl rfl rfl) rfl ?_
        refine l_gn (wantN rfl rfl rfl) rfl ?_
        refine l_rd rfl rfl (x_pick1 rfl ev_c) ?_
        refine l_rd rfl rfl (x_move (by conv => lhs; whnf)) ?_
        refine l_gn (wantN rfl rfl rfl) rfl ?_
        refine l_gn (wantN rfl rfl rfl) rfl ?_
        refine l_gn (wantN rfl rfl rfl) rfl ?_
        refine l_gn (wantN rfl rfl rfl) rfl ?_
        refine l_gn (wantN rfl rfl rfl) rfl ?_
        refine l_rd rfl rfl (x_pick1 rfl ev_c) ?_
        refine WL.nil ?_
        refine WC.cond1 rfl ?_
        refine WC.seq ?_
        refine WC.region ?_
        refine l_rd rfl rfl (x_assign ev_c) ?_
        refine WL.nil ?_
        refine WC.ret ?_
        refine atRet ?_
        exact RetM.one rfl (by (conv => lhs; whnf); try rfl) (⟨by rw [decide_eq_false (by unfold rgt; rw [if_neg h6]; exact fun q => by have h2 := q.2.2.2 k hkx; unfold plb at h2; omega)], H.below 1 rfl⟩)
      ·
        refine l_rd rfl rfl (x_move (by conv => lhs; whnf)) ?_
        refine l_gy (wantY rfl rfl rfl) rfl rfl (x_fieldAddr Tryz.underlying185 rfl rfl ty9 (by decide) h1) ?_
        refine l_gy (wantY rfl rfl rfl) rfl rfl (x_load Tryz.underlying9 rfl rfl (H.cellL 0 rfl rfl)) ?_
        refine l_gy (wantY rfl rfl rfl) rfl rfl (x_move h3) ?_
        refine l_gy (wantY rfl rfl rfl) rfl rfl (x_indexSN Tryz.underlying9 rfl rfl (by omega)) ?_
        refine l_gyD (wantY rfl rfl rfl) rfl rfl (x_gtr rfl rfl) (fun h37 => ?_) (fun h37 => ?_)
        ·
          refine l_rd rfl rfl (x_pick0 rfl (by conv => lhs; whnf)) ?_
          refine l_rd rfl rfl (x_move (by conv => lhs; whnf)) ?_
          refine l_gn (wantN rfl rfl rfl) rfl ?_
          refine l_gn (wantN rfl rfl rfl) rfl ?_
          refine l_gn (wantN rfl rfl rfl) rfl ?_
          refine l_gn (wantN rfl rfl rfl) rfl ?_
          refine l_gn (wantN rfl rfl rfl) rfl ?_
          refine l_rd rfl rfl (x_pick1 rfl ev_c) ?_
          refine l_rd rfl rfl (x_move (by conv => lhs; whnf)) ?_
          refine l_gn (wantN rfl rfl rfl) rfl ?_
          refine l_gn (wantN rfl rfl rfl) rfl ?_
          refine l_gn (wantN rfl rfl rfl) rfl ?_
          refine l_gn (wantN rfl rfl rfl) rfl ?_
          refine l_gn (wantN rfl rfl rfl) rfl ?_
          refine l_rd rfl rfl (x_pick1 rfl ev_c) ?_
          refine WL.nil ?_
          refine WC.cond1 rfl ?_
          refine WC.seq ?_
          refine WC.region ?_
          refine l_rd rfl rfl (x_assign ev_c) ?_
          refine WL.nil ?_
          refine WC.ret ?_
          refine atRet ?_
          exact RetM.one rfl (by (conv => lhs; whnf); try rfl) (⟨by rw [decide_eq_false (by unfold rgt; rw [if_neg h6]; exact fun q => by have h2 := q.2.2.2 k hkx; unfold plb at h2; omega)], H.below 1 rfl⟩)
        ·
          refine l_rd rfl rfl (x_pick0 rfl (by conv => lhs; whnf)) ?_
          refine l_rd rfl rfl (x_move (by conv => lhs; whnf)) ?_
          refine l_gy (wantY rfl rfl rfl) rfl rfl (x_fieldAddr Tryz.underlying185 rfl rfl ty9 (by decide) h1) ?_
          refine l_gy (wantY rfl rfl rfl) rfl rfl (x_load Tryz.underlying9 rfl rfl (H.cellL 0 rfl rfl)) ?_
          refine l_gy (wantY rfl rfl rfl) rfl rfl (x_move h3) ?_
          refine l_gy (wantY rfl rfl rfl) rfl rfl (x_indexSN Tryz.underlying9 rfl rfl (by omega)) ?_
          refine l_gyD (wantY rfl rfl rfl) rfl rfl (x_eql rfl rfl) (fun h44 => ?_) (fun h44 => ?_)
          ·
            refine l_rd rfl rfl (x_pick0 rfl (by conv => lhs; whnf)) ?_
            refine l_rd rfl rfl (x_move (by conv => lhs; whnf)) ?_
            refine l_gn (wantN rfl rfl rfl) rfl ?_
            refine l_gn (wantN rfl rfl rfl) rfl ?_
            refine l_gn (wantN rfl rfl rfl) rfl ?_
            refine l_gn (wantN rfl rfl rfl) rfl ?_
            refine l_gn (wantN rfl rfl rfl) rfl ?_
            refine l_rd rfl rfl (x_pick1 rfl ev_c) ?_
            refine WL.nil ?_
            refine WC.cond1 rfl ?_
            refine WC.seq ?_
            refine WC.region ?_
            refine l_rd rfl rfl (x_assign ev_c) ?_
            refine WL.nil ?_
            refine WC.ret ?_
            refine atRet ?_
            exact RetM.one rfl (by (conv => lhs; whnf); try rfl) (⟨by rw [decide_eq_false (by unfold rgt; rw [if_neg h6]; exact fun q => by have h2 := q.2.2.2 k hkx; unfold plb at h2; omega)], H.below 1 rfl⟩)
          ·
            refine l_rd rfl rfl (x_pick0 rfl (by conv => lhs; whnf)) ?_
            refine l_rd rfl rfl (x_move (by conv => lhs; whnf)) ?_
            refine l_gy (wantY rfl rfl rfl) rfl rfl (x_fieldAddr Tryz.underlying185 rfl rfl ty9 (by decide) h1) ?_
            refine l_gy (wantY rfl rfl rfl) rfl rfl (x_load Tryz.underlying9 rfl rfl (H.cellL 0 rfl rfl)) ?_
            refine l_gy (wantY rfl rfl rfl) rfl rfl (x_move h3) ?_
            refine l_gy (wantY rfl rfl rfl) rfl rfl (x_indexSN Tryz.underlying9 rfl rfl (by omega)) ?_
            refine l_gyD (wantY rfl rfl rfl) rfl rfl (x_eql rfl rfl) (fun h51 => ?_) (fun h51 => ?_)
            ·
              refine l_rd rfl rfl (x_pick0 rfl (by conv => lhs; whnf)) ?_
              refine WL.nil ?_
              refine WC.cond1 rfl ?_
              refine WC.seq ?_
              refine WC.region ?_
              refine l_rd rfl rfl (x_assign ev_c) ?_
              refine WL.nil ?_
              refine WC.ret ?_
              refine atRet ?_
              exact RetM.one rfl (by (conv => lhs; whnf); try rfl) (⟨by rw [decide_eq_false (by unfold rgt; rw [if_neg h6]; exact fun q => by have h2 := q.2.2.2 k hkx; unfold plb at h2; omega)], H.below 1 rfl⟩)
            ·
              refine l_rd rfl rfl (x_pick0 rfl (by conv => lhs; whnf)) ?_
              refine WL.nil ?_
              refine WC.cond0 rfl ?_
              refine WC.skip ?_
              refine WC.region ?_
              refine l_rd rfl rfl (x_move h3) ?_
              refine l_rd rfl rfl (x_add rfl rfl (by omega) (by omega)) ?_
              refine l_rd rfl rfl (x_assign (by conv => lhs; whnf)) ?_
              refine WL.nil ?_
              refine WC.again (⟨k + 1, by omega, fun i hi hik => by
                    by_cases e : i = k
                    · subst e; unfold plb; omega
                    · exact he i hi (by omega), rfl, h1, rfl, H⟩) (by show _ - _ < _ - _; rw [h3]; show p.text.size - ((k : Int) + 1).toNat < p.text.size - (k : Int).toNat; omega)
    ·
      refine WL.nil ?_
      refine WC.cond0 rfl ?_
      refine WC.exit ?_
      refine WC.seq ?_
      refine WC.region ?_
      refine l_rd rfl rfl (x_fieldAddr Tryz.underlying185 rfl rfl ty183 (by decide) h1) ?_
      refine l_rd rfl rfl (x_load Tryz.underlying183 rfl rfl (H.cellL 0 rfl rfl)) ?_
      refine l_rdD rfl rfl (x_eql rfl rfl) (fun h55 => ?_) (fun h55 => ?_)
      ·
        refine l_rd rfl rfl (x_move (by conv => lhs; whnf)) ?_
        refine l_gy (wantY rfl rfl rfl) rfl rfl (x_fieldAddr Tryz.underlying185 rfl rfl ty3 (by decide) h1) ?_
        refine l_gy (wantY rfl rfl rfl) rfl rfl (x_load Tryz.underlying3 rfl rfl (H.cellL 0 rfl rfl)) ?_
        refine l_gyD (wantY rfl rfl rfl) rfl rfl (x_eql rfl rfl) (fun h59 => ?_) (fun h59 => ?_)
        ·
          refine l_rd rfl rfl (x_pick1 rfl (by conv => lhs; whnf)) ?_
          refine l_rd rfl rfl (x_move (by conv => lhs; whnf)) ?_
          refine l_gy (wantY rfl rfl rfl) rfl rfl (x_fieldAddr Tryz.underlying185 rfl rfl ty9 (by decide) h1) ?_
          refine l_gy (wantY rfl rfl rfl) rfl rfl (x_load Tryz.underlying9 rfl rfl (H.cellL 0 rfl rfl)) ?_
          refine l_gy (wantY rfl rfl rfl) rfl rfl (x_lenStr Tryz.underlying9 rfl rfl) ?_
          refine l_gyD (wantY rfl rfl rfl) rfl rfl (x_leq rfl rfl) (fun h65 => ?_) (fun h65 => ?_)
          ·
            refine l_rd rfl rfl (x_pick1 rfl (by conv => lhs; whnf)) ?_
            refine l_rd rfl rfl (x_assign (by conv => lhs; whnf)) ?_
            refine WL.nil ?_
            refine WC.ret ?_
            refine atRet ?_
            exact RetM.one rfl (by (conv => lhs; whnf); try rfl) (⟨by rw [decide_eq_true (by unfold rgt; rw [if_neg h6]; exact ⟨h55, h59, by omega, fun i hi => he i hi (by omega)⟩)], H.below 1 rfl⟩)
          ·
            refine l_rd rfl rfl (x_pick1 rfl (by conv => lhs; whnf)) ?_
            refine l_rd rfl rfl (x_assign (by conv => lhs; whnf)) ?_
            refine WL.nil ?_
            refine WC.ret ?_
            refine atRet ?_
            exact RetM.one rfl (by (conv => lhs; whnf); try rfl) (⟨by rw [decide_eq_false (by unfold rgt; rw [if_neg h6]; rintro ⟨_, _, _, _⟩; omega)], H.below 1 rfl⟩)
        ·
          refine l_rd rfl rfl (x_pick1 rfl (by conv => lhs; whnf)) ?_
          refine l_rd rfl rfl (x_move (by conv => lhs; whnf)) ?_
          refine l_gn (wantN rfl rfl rfl) rfl ?_
          refine l_gn (wantN rfl rfl rfl) rfl ?_
          refine l_gn (wantN rfl rfl rfl) rfl ?_
          refine l_gn (wantN rfl rfl rfl) rfl ?_
          refine l_rd rfl rfl (x_pick0 rfl ev_c) ?_
          refine l_rd rfl rfl (x_assign (by conv => lhs; whnf)) ?_
          refine WL.nil ?_
          refine WC.ret ?_
          refine atRet ?_
          exact RetM.one rfl (by (conv => lhs; whnf); try rfl) (⟨by rw [decide_eq_false (by unfold rgt; rw [if_neg h6]; exact fun q => h59 q.2.1)], H.below 1 rfl⟩)
      ·
        refine l_rd rfl rfl (x_move (by conv => lhs; whnf)) ?_
        refine l_gn (wantN rfl rfl rfl) rfl ?_
        refine l_gn (wantN rfl rfl rfl) rfl ?_
        refine l_gn (wantN rfl rfl rfl) rfl ?_
        refine l_rd rfl rfl (x_pick0 rfl ev_c) ?_
        refine l_rd rfl rfl (x_move (by conv => lhs; whnf)) ?_
        refine l_gn (wantN rfl rfl rfl) rfl ?_
        refine l_gn (wantN rfl rfl rfl) rfl ?_
        refine l_gn (wantN rfl rfl rfl) rfl ?_
        refine l_gn (wantN rfl rfl rfl) rfl ?_
        refine l_rd rfl rfl (x_pick0 rfl ev_c) ?_
        refine l_rd rfl rfl (x_assign (by conv => lhs; whnf)) ?_
        refine WL.nil ?_
        refine WC.ret ?_
        refine atRet ?_
        exact RetM.one rfl (by (conv => lhs; whnf); try rfl) (⟨by rw [decide_eq_false (by unfold rgt; rw [if_neg h6]; exact fun q => h55 q.1)], H.below 1 rfl⟩)
def prsA : ByteArray → List Pr → Prop
  | _, [] => True
  | last, p :: r => sLt last p.key ∧ fre p.key ∧ rgt p ∧ prsA p.key r
def prs (xs : List Pr) : Prop := prsA ⟨#[]⟩ xs ∧ xs.length ≤ 8
noncomputable instance (xs : List Pr) : Decidable (prs xs) := Classical.propDecidable _
theorem prs_at {xs : List Pr} {k : Nat} {x : Pr} {last : ByteArray} (h : xs[k]? = some x) : prsA last (xs.drop k) ↔ sLt last x.key ∧ fre x.key ∧ rgt x ∧ prsA x.key (xs.drop (k + 1)) := by
  obtain ⟨hk, e⟩ := List.getElem?_eq_some_iff.1 h
  rw [List.drop_eq_getElem_cons hk, e]; exact Iff.rfl
noncomputable def chk (s d l : ByteArray) (t : Int) (xs : List Pr) : Int := if vtx s ∧ vtx d ∧ fre l ∧ prs xs then (if 0 ≤ t ∧ t ≤ 1099511627776 then 0 else 6) else 2
theorem c145 {v : Value} {xs : List Pr} (w : World) (hx : RdS w v 4 prC xs) (hsz : ∀ p ∈ xs, p.key.size ≤ 140737488355328 ∧ p.text.size ≤ 140737488355328) : CC Tryz.prog 145 [v].toArray w (fun r w' => r = .bool (decide (prs xs)) ∧ Ext w w') := by
  obtain ⟨w0, e0⟩ : ∃ w0, w0 = w := ⟨w, rfl⟩
  subst e0
  have H := Hd.start w0
  obtain ⟨a, c, rfl⟩ := hx.shape
  have hle := hx.le
  refine CC.of (N := 34) Tryz.func145 rfl rfl rfl ?_
  refine WC.seq ?_
  refine WC.region ?_
  refine l_rd rfl rfl (x_assign ev_c) ?_
  refine WL.nil ?_
  refine WC.seq ?_
  refine WC.region ?_
  refine l_rd rfl rfl (x_assign ev_c) ?_
  refine WL.nil ?_
  refine WC.seq ?_
  refine WC.seq ?_
  refine WC.region ?_
  refine l_rd rfl rfl (x_move (by conv => lhs; whnf)) ?_
  refine l_rd rfl rfl (x_lenSlice Tryz.underlying33 rfl rfl) ?_
  refine l_rd rfl rfl (x_move ev_c) ?_
  refine WL.nil ?_
  refine WC.block ?_
  refine WC.loop (fun ρ ds w => ∃ (k : Nat) (last : ByteArray), k ≤ xs.length ∧ (prsA ⟨#[]⟩ xs ↔ prsA last (xs.drop k)) ∧ ρ 8 = I k ∧ ρ 7 = I xs.length ∧ ρ 6 = .slice a xs.length c ∧ ρ 3 = S last ∧ ρ 0 = .slice a xs.length c ∧ ds = [] ∧ Hd (sy w0) w [fr w0]) (fun ρ w => xs.length - (match ρ 8 with | .int _ k => k.toNat | _ => 0)) (⟨0, ⟨#[]⟩, Nat.zero_le _, Iff.rfl, rfl, rfl, rfl, rfl, rfl, rfl, H⟩) ?_
  repeat clear H
  rintro ρ ds w ⟨k, last, hk, he, h8, h7, h6, h3, h0, rfl, H⟩
  refine WC.seq ?_
  refine WC.region ?_
  refine l_rdD rfl rfl (x_lss h8 h7) (fun h9 => ?_) (fun h9 => ?_)
  ·
    refine WL.nil ?_
    refine WC.seq ?_
    refine WC.cond1 rfl ?_
    refine WC.skip ?_
    refine WC.seq ?_
    refine WC.block ?_
    refine WC.seq ?_
    obtain ⟨x, hxk⟩ := lt_get (show k < xs.length by omega)
    obtain ⟨b1, o1, rfl, hc1⟩ := hx.el prC_len hxk
    have hxm := List.mem_of_getElem? hxk
    refine WC.region ?_
    refine l_rd rfl rfl (x_indexAddr Tryz.underlying33 ty187 h6 h8 (by omega) (by omega)) ?_
    refine l_rd rfl rfl (x_loadF (vs := [_, _, _, _]) Tryz.underlying187 rfl ty187 rfl rfl (sub_row 0 (fun j u hj => (H.old 0 rfl).cell (hc1 j u hj)) rfl)) ?_
    refine l_st rfl (s_alloc ty187 H fun b5 w H => ?_)
    refine l_no (s_stA 0 rfl ty187 rfl (by conv => lhs; whnf) rfl rfl rfl H fun w H => ?_)
    refine WL.nil ?_
    refine WC.seq ?_
    refine WC.seq ?_
    refine WC.region ?_
    refine l_rd rfl rfl (x_fieldAddr Tryz.underlying187 rfl rfl ty9 (by decide) rfl) ?_
    refine l_rd rfl rfl (x_load Tryz.underlying9 rfl rfl (H.cellL 0 rfl rfl)) ?_
    refine l_rd rfl rfl (x_move h3) ?_
    refine l_rdD rfl rfl (x_leqS rfl rfl) (fun h15 => ?_) (fun h15 => ?_)
    ·
      refine l_rd rfl rfl (x_move (by conv => lhs; whnf)) ?_
      refine l_gn (wantN rfl rfl rfl) rfl ?_
      refine l_gn (wantN rfl rfl rfl) rfl ?_
      refine l_gn (wantN rfl rfl rfl) rfl ?_
      refine l_gn (wantN rfl rfl rfl) rfl ?_
      refine l_rd rfl rfl (x_pick1 rfl ev_c) ?_
      refine l_rd rfl rfl (x_move (by conv => lhs; whnf)) ?_
      refine l_gn (wantN rfl rfl rfl) rfl ?_
      refine l_gn (wantN rfl rfl rfl) rfl ?_
      refine l_gn (wantN rfl rfl rfl) rfl ?_
      refine l_gn (wantN rfl rfl rfl) rfl ?_
      refine l_rd rfl rfl (x_pick1 rfl ev_c) ?_
      refine WL.nil ?_
      refine WC.cond1 rfl ?_
      refine WC.seq ?_
      refine WC.region ?_
      refine l_rd rfl rfl (x_assign ev_c) ?_
      refine WL.nil ?_
      refine WC.ret ?_
      refine atRet ?_
      exact RetM.one rfl (by (conv => lhs; whnf); try rfl) (⟨by rw [decide_eq_false (fun h => by have h2 := (prs_at hxk).1 (he.1 h.1); exact sLt_not.2 h2.1 h15)], H.below 1 rfl⟩)
    ·
      refine l_rd rfl rfl (x_move (by conv => lhs; whnf)) ?_
      refine l_gy (wantY rfl rfl rfl) rfl rfl (x_fieldAddr Tryz.underlying187 rfl rfl ty9 (by decide) rfl) ?_
      refine l_gy (wantY rfl rfl rfl) rfl rfl (x_load Tryz.underlying9 rfl rfl (H.cellL 0 rfl rfl)) ?_
      refine l_gst (wantY rfl rfl rfl) rfl (s_callL cal144 (c144 (x := x.key) _) ?_)
      rintro r w ⟨hr1, e1⟩
      have H := H.ext e1
      by_cases h19 : fre x.key
      ·
        obtain rfl : r = .bool true := by rw [hr1, decide_eq_true h19]
        refine l_gy (wantY rfl rfl rfl) rfl rfl (x_not rfl) ?_
        refine l_rd rfl rfl (x_pick0 rfl (by conv => lhs; whnf)) ?_
        refine l_rd rfl rfl (x_move (by conv => lhs; whnf)) ?_
        refine l_gy (wantY rfl rfl rfl) rfl rfl (x_fieldAddr Tryz.underlying187 rfl rfl ty185 (by decide) rfl) ?_
        refine l_gy (wantY rfl rfl rfl) rfl rfl (x_loadF (vs := [_, _, _]) Tryz.underlying185 rfl ty185 rfl rfl (H.cellsL 0 rfl rfl)) ?_
        refine l_gst (wantY rfl rfl rfl) rfl (s_callL cal196 (c196 (p := x) _ (hsz x hxm).2) ?_)
        rintro r w ⟨hr1, e1⟩
        have H := H.ext e1
        by_cases h25 : rgt x
        ·
          obtain rfl : r = .bool true := by rw [hr1, decide_eq_true h25]
          refine l_gy (wantY rfl rfl rfl) rfl rfl (x_not rfl) ?_
          refine l_rd rfl rfl (x_pick0 rfl (by conv => lhs; whnf)) ?_
          refine WL.nil ?_
          refine WC.cond0 rfl ?_
          refine WC.skip ?_
          refine WC.region ?_
          refine l_rd rfl rfl (x_fieldAddr Tryz.underlying187 rfl rfl ty9 (by decide) rfl) ?_
          refine l_rd rfl rfl (x_load Tryz.underlying9 rfl rfl (H.cellL 0 rfl rfl)) ?_
          refine l_rd rfl rfl (x_assign (by conv => lhs; whnf)) ?_
          refine WL.nil ?_
          refine WC.region ?_
          refine l_rd rfl rfl (x_add h8 rfl (by omega) (by omega)) ?_
          refine l_rd rfl rfl (x_move (by conv => lhs; whnf)) ?_
          refine WL.nil ?_
          refine WC.again (⟨k + 1, x.key, by omega, he.trans ((prs_at hxk).trans ⟨fun q => q.2.2.2, fun q => ⟨sLt_not.1 h15, h19, h25, q⟩⟩), rfl, h7, h6, rfl, h0, rfl, H.drop⟩) (by show _ - _ < _ - _; rw [h8]; show xs.length - ((k : Int) + 1).toNat < xs.length - (k : Int).toNat; omega)
        ·
          obtain rfl : r = .bool false := by rw [hr1, decide_eq_false h25]
          refine l_gy (wantY rfl rfl rfl) rfl rfl (x_not rfl) ?_
          refine l_rd rfl rfl (x_pick0 rfl (by conv => lhs; whnf)) ?_
          refine WL.nil ?_
          refine WC.cond1 rfl ?_
          refine WC.seq ?_
          refine WC.region ?_
          refine l_rd rfl rfl (x_assign ev_c) ?_
          refine WL.nil ?_
          refine WC.ret ?_
          refine atRet ?_
          exact RetM.one rfl (by (conv => lhs; whnf); try rfl) (⟨by rw [decide_eq_false (fun h => by have h2 := (prs_at hxk).1 (he.1 h.1); exact h25 h2.2.2.1)], H.below 1 rfl⟩)
      ·
        obtain rfl : r = .bool false := by rw [hr1, decide_eq_false h19]
        refine l_gy (wantY rfl rfl rfl) rfl rfl (x_not rfl) ?_
        refine l_rd rfl rfl (x_pick0 rfl (by conv => lhs; whnf)) ?_
        refine l_rd rfl rfl (x_move (by conv => lhs; whnf)) ?_
        refine l_gn (wantN rfl rfl rfl) rfl ?_
        refine l_gn (wantN rfl rfl rfl) rfl ?_
        refine l_gn (wantN rfl rfl rfl) rfl ?_
        refine l_gn (wantN rfl rfl rfl) rfl ?_
        refine l_rd rfl rfl (x_pick1 rfl ev_c) ?_
        refine WL.nil ?_
        refine WC.cond1 rfl ?_
        refine WC.seq ?_
        refine WC.region ?_
        refine l_rd rfl rfl (x_assign ev_c) ?_
        refine WL.nil ?_
        refine WC.ret ?_
        refine atRet ?_
        exact RetM.one rfl (by (conv => lhs; whnf); try rfl) (⟨by rw [decide_eq_false (fun h => by have h2 := (prs_at hxk).1 (he.1 h.1); exact h19 h2.2.1)], H.below 1 rfl⟩)
  ·
    refine WL.nil ?_
    refine WC.seq ?_
    refine WC.cond0 rfl ?_
    refine WC.exit ?_
    refine WC.seq ?_
    refine WC.region ?_
    refine l_rd rfl rfl (x_move h0) ?_
    refine l_rd rfl rfl (x_lenSlice Tryz.underlying33 rfl rfl) ?_
    refine l_rdD rfl rfl (x_leq rfl rfl) (fun h33 => ?_) (fun h33 => ?_)
    ·
      refine l_rd rfl rfl (x_assign (by conv => lhs; whnf)) ?_
      refine WL.nil ?_
      refine WC.ret ?_
      refine atRet ?_
      exact RetM.one rfl (by (conv => lhs; whnf); try rfl) (⟨by rw [decide_eq_true ⟨he.2 (by rw [List.drop_of_length_le (by omega)]; trivial), by omega⟩], H.below 0 rfl⟩)
    ·
      refine l_rd rfl rfl (x_assign (by conv => lhs; whnf)) ?_
      refine WL.nil ?_
      refine WC.ret ?_
      refine atRet ?_
      exact RetM.one rfl (by (conv => lhs; whnf); try rfl) (⟨by rw [decide_eq_false (fun h => by have := h.2; omega)], H.below 0 rfl⟩)
theorem c77 {e : Ed} {xs : List Pr} (w : World) (hx : RdS w e.pv 4 prC xs) (hsz : ∀ p ∈ xs, p.key.size ≤ 140737488355328 ∧ p.text.size ≤ 140737488355328) : CC Tryz.prog 77 [.agg (edC e).toArray].toArray w (fun r w' => r = I (chk e.src e.dst e.lab e.time xs) ∧ Ext w w') := by
  obtain ⟨w0, e0⟩ : ∃ w0, w0 = w := ⟨w, rfl⟩
  subst e0
  have H := Hd.start w0
  refine CC.of (N := 25) Tryz.func77 rfl rfl rfl ?_
  refine WC.seq ?_
  refine WC.region ?_
  refine l_st rfl (s_box (by conv => lhs; whnf) H fun b1 w H => ?_)
  refine l_rd rfl rfl (x_assign ev_c) ?_
  refine WL.nil ?_
  refine WC.seq ?_
  refine WC.block ?_
  refine WC.seq ?_
  refine WC.seq ?_
  refine WC.region ?_
  refine l_rd rfl rfl (x_fieldAddr Tryz.underlying35 rfl rfl ty9 (by decide) rfl) ?_
  refine l_rd rfl rfl (x_load Tryz.underlying9 rfl rfl (H.cellL 0 rfl rfl)) ?_
  refine l_st rfl (s_callL cal143 (c143 _) ?_)
  rintro r w ⟨hr1, e1⟩
  have H := H.ext e1
  by_cases h6 : vtx e.src
  ·
    obtain rfl : r = .bool true := by rw [hr1, decide_eq_true h6]
    refine l_rd rfl rfl (x_not rfl) ?_
    refine l_rd rfl rfl (x_assign (by conv => lhs; whnf)) ?_
    refine WL.nil ?_
    refine WC.cond0 rfl ?_
    refine WC.seq ?_
    refine WC.region ?_
    refine l_rd rfl rfl (x_fieldAddr Tryz.underlying35 rfl rfl ty9 (by decide) rfl) ?_
    refine l_rd rfl rfl (x_load Tryz.underlying9 rfl rfl (H.cellL 0 rfl rfl)) ?_
    refine l_st rfl (s_callL cal143 (c143 _) ?_)
    rintro r w ⟨hr1, e1⟩
    have H := H.ext e1
    by_cases h10 : vtx e.dst
    ·
      obtain rfl : r = .bool true := by rw [hr1, decide_eq_true h10]
      refine l_rd rfl rfl (x_not rfl) ?_
      refine l_rd rfl rfl (x_assign (by conv => lhs; whnf)) ?_
      refine WL.nil ?_
      refine WC.cond0 rfl ?_
      refine WC.seq ?_
      refine WC.region ?_
      refine l_rd rfl rfl (x_fieldAddr Tryz.underlying35 rfl rfl ty9 (by decide) rfl) ?_
      refine l_rd rfl rfl (x_load Tryz.underlying9 rfl rfl (H.cellL 0 rfl rfl)) ?_
      refine l_st rfl (s_callL cal144 (c144 _) ?_)
      rintro r w ⟨hr1, e1⟩
      have H := H.ext e1
      by_cases h14 : fre e.lab
      ·
        obtain rfl : r = .bool true := by rw [hr1, decide_eq_true h14]
        refine l_rd rfl rfl (x_not rfl) ?_
        refine l_rd rfl rfl (x_assign (by conv => lhs; whnf)) ?_
        refine WL.nil ?_
        refine WC.cond0 rfl ?_
        refine WC.region ?_
        refine l_rd rfl rfl (x_fieldAddr Tryz.underlying35 rfl rfl ty33 (by decide) rfl) ?_
        refine l_rd rfl rfl (x_load Tryz.underlying33 rfl rfl (H.cellL 0 rfl rfl)) ?_
        refine l_st rfl (s_callL cal145 (c145 _ ((H.old 1 rfl).rdS hx) hsz) ?_)
        rintro r w ⟨hr1, e1⟩
        have H := H.ext e1
        by_cases h18 : prs xs
        ·
          obtain rfl : r = .bool true := by rw [hr1, decide_eq_true h18]
          refine l_rd rfl rfl (x_not rfl) ?_
          refine l_rd rfl rfl (x_assign (by conv => lhs; whnf)) ?_
          refine WL.nil ?_
          refine WC.cond0 rfl ?_
          refine WC.seq ?_
          refine WC.region ?_
          refine l_rd rfl rfl (x_fieldAddr Tryz.underlying35 rfl rfl ty3 (by decide) rfl) ?_
          refine l_rd rfl rfl (x_load Tryz.underlying3 rfl rfl (H.cellL 0 rfl rfl)) ?_
          refine l_st rfl (s_callL cal146 (c146 _) ?_)
          rintro r w ⟨hr1, e1⟩
          have H := H.ext e1
          by_cases h23 : 0 ≤ e.time ∧ e.time ≤ 1099511627776
          ·
            obtain rfl : r = .bool true := by rw [hr1, decide_eq_true h23]
            refine l_rd rfl rfl (x_not rfl) ?_
            refine l_rd rfl rfl (x_assign (by conv => lhs; whnf)) ?_
            refine WL.nil ?_
            refine WC.cond0 rfl ?_
            refine WC.skip ?_
            refine WC.seq ?_
            refine WC.region ?_
            refine l_rd rfl rfl (x_assign ev_c) ?_
            refine WL.nil ?_
            refine WC.ret ?_
            refine atRet ?_
            exact RetM.one rfl (by (conv => lhs; whnf); try rfl) (⟨by rw [chk, if_pos ⟨h6, h10, h14, h18⟩, if_pos h23], H.below 1 rfl⟩)
          ·
            obtain rfl : r = .bool false := by rw [hr1, decide_eq_false h23]
            refine l_rd rfl rfl (x_not rfl) ?_
            refine l_rd rfl rfl (x_assign (by conv => lhs; whnf)) ?_
            refine WL.nil ?_
            refine WC.cond1 rfl ?_
            refine WC.seq ?_
            refine WC.region ?_
            refine l_rd rfl rfl (x_assign ev_c) ?_
            refine WL.nil ?_
            refine WC.ret ?_
            refine atRet ?_
            exact RetM.one rfl (by (conv => lhs; whnf); try rfl) (⟨by rw [chk, if_pos ⟨h6, h10, h14, h18⟩, if_neg h23], H.below 1 rfl⟩)
        ·
          obtain rfl : r = .bool false := by rw [hr1, decide_eq_false h18]
          refine l_rd rfl rfl (x_not rfl) ?_
          refine l_rd rfl rfl (x_assign (by conv => lhs; whnf)) ?_
          refine WL.nil ?_
          refine WC.cond1 rfl ?_
          refine WC.seq ?_
          refine WC.region ?_
          refine l_rd rfl rfl (x_assign ev_c) ?_
          refine WL.nil ?_
          refine WC.ret ?_
          refine atRet ?_
          exact RetM.one rfl (by (conv => lhs; whnf); try rfl) (⟨by rw [chk, if_neg (fun q => h18 q.2.2.2)], H.below 1 rfl⟩)
      ·
        obtain rfl : r = .bool false := by rw [hr1, decide_eq_false h14]
        refine l_rd rfl rfl (x_not rfl) ?_
        refine l_rd rfl rfl (x_assign (by conv => lhs; whnf)) ?_
        refine WL.nil ?_
        refine WC.cond1 rfl ?_
        refine WC.skip ?_
        refine WC.cond1 rfl ?_
        refine WC.seq ?_
        refine WC.region ?_
        refine l_rd rfl rfl (x_assign ev_c) ?_
        refine WL.nil ?_
        refine WC.ret ?_
        refine atRet ?_
        exact RetM.one rfl (by (conv => lhs; whnf); try rfl) (⟨by rw [chk, if_neg (fun q => h14 q.2.2.1)], H.below 1 rfl⟩)
    ·
      obtain rfl : r = .bool false := by rw [hr1, decide_eq_false h10]
      refine l_rd rfl rfl (x_not rfl) ?_
      refine l_rd rfl rfl (x_assign (by conv => lhs; whnf)) ?_
      refine WL.nil ?_
      refine WC.cond1 rfl ?_
      refine WC.skip ?_
      refine WC.cond1 rfl ?_
      refine WC.seq ?_
      refine WC.region ?_
      refine l_rd rfl rfl (x_assign ev_c) ?_
      refine WL.nil ?_
      refine WC.ret ?_
      refine atRet ?_
      exact RetM.one rfl (by (conv => lhs; whnf); try rfl) (⟨by rw [chk, if_neg (fun q => h10 q.2.1)], H.below 1 rfl⟩)
  ·
    obtain rfl : r = .bool false := by rw [hr1, decide_eq_false h6]
    refine l_rd rfl rfl (x_not rfl) ?_
    refine l_rd rfl rfl (x_assign (by conv => lhs; whnf)) ?_
    refine WL.nil ?_
    refine WC.cond1 rfl ?_
    refine WC.skip ?_
    refine WC.cond1 rfl ?_
    refine WC.seq ?_
    refine WC.region ?_
    refine l_rd rfl rfl (x_assign ev_c) ?_
    refine WL.nil ?_
    refine WC.ret ?_
    refine atRet ?_
    exact RetM.one rfl (by (conv => lhs; whnf); try rfl) (⟨by rw [chk, if_neg (fun q => h6 q.1)], H.below 1 rfl⟩)
theorem c10 {x n : Int} (w : World) (hn : 1 ≤ n ∧ n ≤ 100) : CC Tryz.prog 10 [I x, I n].toArray w (fun r w' => r = I (x % n) ∧ Ext w w') := by
  obtain ⟨w0, e0⟩ : ∃ w0, w0 = w := ⟨w, rfl⟩
  subst e0
  have H := Hd.start w0
  refine CC.of (N := 16) Tryz.func10 rfl rfl rfl ?_
  refine WC.seq ?_
  refine WC.region ?_
  refine l_rd rfl rfl (x_assign ev_c) ?_
  refine WL.nil ?_
  refine WC.seq ?_
  refine WC.seq ?_
  refine WC.region ?_
  refine l_rd rfl rfl (x_move (by conv => lhs; whnf)) ?_
  refine l_rdD rfl rfl (x_lss rfl rfl) (fun h6 => ?_) (fun h6 => ?_)
  ·
    exfalso; omega
  ·
    refine WL.nil ?_
    refine WC.cond0 rfl ?_
    refine WC.skip ?_
    refine WC.seq ?_
    refine WC.region ?_
    refine l_rd rfl rfl (x_move (by conv => lhs; whnf)) ?_
    refine l_rd rfl rfl (x_move (by conv => lhs; whnf)) ?_
    obtain ⟨t1, t2, t3, t4⟩ := tmod_law (a := x) (b := n) (by omega)
    refine l_rd rfl rfl (x_remT rfl rfl (by omega)) ?_
    refine l_rd rfl rfl (x_assign (by conv => lhs; whnf)) ?_
    refine WL.nil ?_
    refine WC.seq ?_
    refine WC.seq ?_
    refine WC.region ?_
    refine l_rd rfl rfl (x_move (by conv => lhs; whnf)) ?_
    refine l_rdD rfl rfl (x_lss rfl rfl) (fun h11 => ?_) (fun h11 => ?_)
    ·
      refine WL.nil ?_
      refine WC.cond1 rfl ?_
      refine WC.region ?_
      refine l_rd rfl rfl (x_move (by conv => lhs; whnf)) ?_
      refine l_rd rfl rfl (x_move (by conv => lhs; whnf)) ?_
      refine l_rd rfl rfl (x_add rfl rfl (by omega) (by omega)) ?_
      refine l_rd rfl rfl (x_assign (by conv => lhs; whnf)) ?_
      refine WL.nil ?_
      refine WC.seq ?_
      refine WC.region ?_
      refine l_rd rfl rfl (x_move (by conv => lhs; whnf)) ?_
      refine l_rd rfl rfl (x_assign (by conv => lhs; whnf)) ?_
      refine WL.nil ?_
      refine WC.ret ?_
      refine atRet ?_
      exact RetM.one rfl (by (conv => lhs; whnf); try rfl) ⟨by first | rw [t3 h11] | rw [t4 h11], H.below 0 rfl⟩
    ·
      refine WL.nil ?_
      refine WC.cond0 rfl ?_
      refine WC.skip ?_
      refine WC.seq ?_
      refine WC.region ?_
      refine l_rd rfl rfl (x_move (by conv => lhs; whnf)) ?_
      refine l_rd rfl rfl (x_assign (by conv => lhs; whnf)) ?_
      refine WL.nil ?_
      refine WC.ret ?_
      refine atRet ?_
      exact RetM.one rfl (by (conv => lhs; whnf); try rfl) ⟨by first | rw [t3 h11] | rw [t4 h11], H.below 0 rfl⟩
end Go.Proofs.YteibnmkikdbndaaGreatDoor
