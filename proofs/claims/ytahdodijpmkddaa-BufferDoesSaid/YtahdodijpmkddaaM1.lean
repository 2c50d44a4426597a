/-
  What functions of this seat do: contracts, proved by walks, and the plain laws that they need; each with the conditions that it names.
-/
import Derived.Test.YtahdodijpmkddaaE3
import Derived.Test.YtahdodijpmkddaaProg
set_option linter.unusedVariables false
set_option linter.unusedSimpArgs false
namespace Go.Proofs.Ytahdodijpmkddaa
open Go Go.RowKit KE Go.Proofs
theorem mixed : Try.prog.follows .mixedOrders = true := by kernel_rfl
abbrev S (x : ByteArray) : Value := .string x
abbrev I (x : Int) : Value := .int .i64 x
instance : LawfulBEq ByteArray where
  eq_of_beq h := by rw [ba_beq] at h; exact of_decide_eq_true h
  rfl {a} := by rw [ba_beq]; exact decide_eq_true rfl
/-! ### props, edges -/
structure Pr where
  key : ByteArray
  kind : Int
  num : Int
  text : ByteArray
  deriving DecidableEq
abbrev prC (p : Pr) : List Value := [S p.key, I p.kind, I p.num, S p.text]
theorem prC_len (p : Pr) : (prC p).length = 4 := rfl
/-- an edge, its props by the slice that holds them -/
structure Ed where
  src : ByteArray
  dst : ByteArray
  lab : ByteArray
  time : Int
  pv : Value
abbrev edC (e : Ed) : List Value := [S e.src, S e.dst, S e.lab, I e.time, e.pv]
theorem edC_len (e : Ed) : (edC e).length = 5 := rfl
/-- an edge as a value of its own -/
structure Eg where
  src : ByteArray
  dst : ByteArray
  lab : ByteArray
  time : Int
  props : List Pr
  deriving DecidableEq
/-- the edge that memory holds -/
def EdR (w : World) (e : Ed) (x : Eg) : Prop := e.src = x.src ∧ e.dst = x.dst ∧ e.lab = x.lab ∧ e.time = x.time ∧ RdS w e.pv 4 prC x.props
theorem EdR.old {w w' : World} {e : Ed} {x : Eg} (h : EdR w e x) (o : Old w w') : EdR w' e x := ⟨h.1, h.2.1, h.2.2.1, h.2.2.2.1, o.rdS h.2.2.2.2⟩
theorem eg_iff {x y : Eg} : x = y ↔ x.src = y.src ∧ x.dst = y.dst ∧ x.lab = y.lab ∧ x.time = y.time ∧ x.props = y.props := by
  cases x; cases y; simp
/-- a list of edges, read -/
def EdL (w : World) (v : Value) (xs : List Eg) : Prop := ∃ es : List Ed, RdS w v 5 edC es ∧ es.length = xs.length ∧ ∀ (i : Nat) (e : Ed) (x : Eg), es[i]? = some e → xs[i]? = some x → EdR w e x
theorem EdL.shape {w : World} {v : Value} {xs : List Eg} (h : EdL w v xs) : ∃ a c, v = .slice a xs.length c := by
  obtain ⟨es, h1, h2, h3⟩ := h; rw [← h2]; exact h1.shape
theorem EdL.le {w : World} {v : Value} {xs : List Eg} (h : EdL w v xs) : xs.length ≤ 140737488355328 := by
  obtain ⟨es, h1, h2, h3⟩ := h; rw [← h2]; exact h1.le
theorem EdL.old {w w' : World} {v : Value} {xs : List Eg} (h : EdL w v xs) (o : Old w w') : EdL w' v xs := by
  obtain ⟨es, h1, h2, h3⟩ := h; exact ⟨es, o.rdS h1, h2, fun i e x a b => (h3 i e x a b).old o⟩
theorem EdL.el {w : World} {a : Option Addr} {n c i : Nat} {xs : List Eg} {x : Eg} (h : EdL w (.slice a n c) xs) (hx : xs[i]? = some x) : ∃ b o e, a = some ⟨b, o, none⟩ ∧ (∀ j u, (edC e)[j]? = some u → w.cell? ⟨b, o + i * 5 + j, none⟩ = some u) ∧ EdR w e x := by
  obtain ⟨es, h1, h2, h3⟩ := h
  obtain ⟨e, he⟩ := lt_get (show i < es.length by have := (List.getElem?_eq_some_iff.1 hx).1; omega)
  obtain ⟨b, o, ha, hc⟩ := h1.el edC_len he
  exact ⟨b, o, e, ha, hc, h3 i e x he hx⟩
/-! structs compared -/
theorem ty84 : Ty Try.prog 84 (.agg #[.int .i64 0, .int .i64 0, .string ⟨#[]⟩]) 3 32 := Ty.of (by kernel_rfl)
theorem eq84 (w : World) (n : Nat) (a b c a' b' c' : _) : (Op.equalIn (n + 2) 84 (.agg #[I a, I b, S c]) (.agg #[I a', I b', S c'])).run Try.prog w = .ok (decide (a = a') && (decide (b = b') && (decide (c = c') && true))) w :=
  EqF.run Try.underlying84 (by kernel_rfl) (.one (by decide) (part1 Try.underlying82 rfl rfl) (part1 Try.underlying82 rfl rfl) (eqIn_int Try.underlying82) (.one (by decide) (part1 Try.underlying3 rfl rfl) (part1 Try.underlying3 rfl rfl) (eqIn_int Try.underlying3) (.one (by decide) (part1 Try.underlying9 rfl rfl) (part1 Try.underlying9 rfl rfl) (eqIn_str Try.underlying9) .nil)))
theorem eq86n (w : World) (p q : Pr) (n : Nat) : (Op.equalIn (n + 3) 86 (.agg (prC p).toArray) (.agg (prC q).toArray)).run Try.prog w = .ok (decide (p = q)) w := by
  have h84 : (Op.equalIn (n + 2) 84 (.agg ((prC p).toArray.extract 1 (1 + 3))) (.agg ((prC q).toArray.extract 1 (1 + 3)))).run Try.prog w = .ok (decide (p.kind = q.kind ∧ p.num = q.num ∧ p.text = q.text)) w := by
    refine (eq84 w n p.kind p.num p.text q.kind q.num q.text).trans ?_
    congr 1
    by_cases h1 : p.kind = q.kind <;> by_cases h2 : p.num = q.num <;> by_cases h3 : p.text = q.text <;> simp [h1, h2, h3]
  have h := EqF.run (P := Try.prog) (w := w) (n := n + 2) Try.underlying86 (by kernel_rfl) (xs := (prC p).toArray) (ys := (prC q).toArray) (.one (by decide) (part1 Try.underlying9 rfl rfl) (part1 Try.underlying9 rfl rfl) (eqIn_str Try.underlying9) (.one (by decide) (partA Try.underlying84 rfl ty84) (partA Try.underlying84 rfl ty84) h84 .nil))
  rw [show Op.equalIn (n + 3) 86 (.agg (prC p).toArray) (.agg (prC q).toArray) = Op.equalIn (n + 2 + 1) 86 (.agg (prC p).toArray) (.agg (prC q).toArray) from rfl, h]
  have e : (decide (p.key = q.key) && (decide (p.kind = q.kind ∧ p.num = q.num ∧ p.text = q.text) && true)) = decide (p = q) := by
    cases p; cases q
    simp only [Pr.mk.injEq, Bool.and_true, Bool.decide_and]
  rw [e]
theorem eq86 {w : World} {p q : Pr} : (Op.equal 86 (.agg (prC p).toArray) (.agg (prC q).toArray)).run Try.prog w = .ok (decide (p = q)) w := eq86n w p q 9997
end Go.Proofs.Ytahdodijpmkddaa
set_option linter.unusedVariables false
set_option linter.unusedSimpArgs false
namespace KE
open Go
/-! ### the order of texts -/
theorem bl_irr : ∀ a : List UInt8, Op.bytesLess a a = false
  | [] => rfl
  | x :: a => by simp [Op.bytesLess, bl_irr a]
theorem bl_tri : ∀ a b : List UInt8, Op.bytesLess a b = true ∨ a = b ∨ Op.bytesLess b a = true
  | [], [] => .inr (.inl rfl)
  | [], _ :: _ => .inl rfl
  | _ :: _, [] => .inr (.inr rfl)
  | x :: a, y :: b => by
    simp only [Op.bytesLess]
    rcases Nat.lt_trichotomy x.toNat y.toNat with h | h | h
    · left; simp [UInt8.lt_iff_toNat_lt, h]
    · have e : x = y := UInt8.toNat_inj.1 h
      subst e
      rcases bl_tri a b with h1 | h1 | h1 <;> simp [h1]
    · right; right; simp [UInt8.lt_iff_toNat_lt, h]
theorem bl_trans : ∀ a b c : List UInt8, Op.bytesLess a b = true → Op.bytesLess b c = true → Op.bytesLess a c = true
  | [], [], _, h, _ => by simp [Op.bytesLess] at h
  | [], _ :: _, [], _, h => by simp [Op.bytesLess] at h
  | [], _ :: _, _ :: _, _, _ => rfl
  | _ :: _, [], _, h, _ => by simp [Op.bytesLess] at h
  | _ :: _, _ :: _, [], _, h => by simp [Op.bytesLess] at h
  | x :: a, y :: b, z :: c, h1, h2 => by
    simp [Op.bytesLess, UInt8.lt_iff_toNat_lt] at h1 h2 ⊢
    rcases h1 with h1 | ⟨rfl, h1⟩
    · rcases h2 with h2 | ⟨rfl, h2⟩
      · left; omega
      · left; exact h1
    · rcases h2 with h2 | ⟨rfl, h2⟩
      · left; exact h2
      · right; exact ⟨rfl, bl_trans a b c h1 h2⟩
theorem sLt_irr (a : ByteArray) : ¬ sLt a a := by simp [sLt, bl_irr]
theorem toList_inj {a b : ByteArray} (h : a.toList = b.toList) : a = b := by
  rw [toList_data, toList_data] at h
  exact ByteArray.ext (Array.ext' h)
theorem sLt_tri (a b : ByteArray) : sLt a b ∨ a = b ∨ sLt b a := by
  rcases bl_tri a.toList b.toList with h | h | h
  · exact .inl h
  · exact .inr (.inl (toList_inj h))
  · exact .inr (.inr h)
theorem sLt_trans {a b c : ByteArray} (h1 : sLt a b) (h2 : sLt b c) : sLt a c := bl_trans _ _ _ h1 h2
theorem sLt_asym {a b : ByteArray} (h1 : sLt a b) : ¬ sLt b a := fun h2 => sLt_irr a (sLt_trans h1 h2)
theorem sLt_not {a b : ByteArray} : ¬ (sLt b a ∨ b = a) ↔ sLt a b := by
  constructor
  · intro h
    rcases sLt_tri a b with h1 | h1 | h1
    · exact h1
    · exact absurd (.inr h1.symm) h
    · exact absurd (.inl h1) h
  · rintro h (h1 | h1)
    · exact sLt_asym h h1
    · subst h1; exact sLt_irr _ h
theorem sLt_empty {a : ByteArray} (h : 1 ≤ a.size) : sLt ⟨#[]⟩ a := by
  rcases sLt_tri ⟨#[]⟩ a with h1 | h1 | h1
  · exact h1
  · subst h1; exact absurd h (by decide)
  · exfalso
    unfold sLt at h1
    have e : (⟨#[]⟩ : ByteArray).toList = [] := by rw [toList_data]
    rw [e] at h1
    cases ha : a.toList <;> rw [ha] at h1 <;> simp [Op.bytesLess] at h1
end KE
set_option linter.unusedVariables false
set_option linter.unusedSimpArgs false
namespace Go.Proofs.Ytahdodijpmkddaa
open Go Go.RowKit KE Go.Proofs
theorem ty33 : Ty Try.prog 33 (.agg #[(.string ⟨#[]⟩), (.string ⟨#[]⟩), (.string ⟨#[]⟩), (.int .i64 0), (.slice none 0 0)]) 5 80 := Ty.of (by kernel_rfl)
theorem ty86 : Ty Try.prog 86 (.agg #[(.string ⟨#[]⟩), (.int .i64 0), (.int .i64 0), (.string ⟨#[]⟩)]) 4 48 := Ty.of (by kernel_rfl)
theorem cal49 : Cal Try.prog 49 := ⟨_, Try.func49, rfl, by decide⟩

def mk (k i : Int) : Int := 1000003 * (k + 7) + i
def mkP (k i : Int) : Pr := ⟨⟨#[109]⟩, 0, mk k i, ⟨#[]⟩⟩
def mkE (k i : Int) : Ed := ⟨⟨#[]⟩, ⟨#[]⟩, ⟨#[]⟩, mk k i, .slice none 0 0⟩
theorem c49 {k i : Int} (w : World) (h0 : 0 ≤ k ∧ k ≤ 10) (h1 : 0 ≤ i ∧ i ≤ 100000) : CC Try.prog 49 [I k, I i].toArray w (fun r w' => r = I (mk k i) ∧ Ext w w') := by
  obtain ⟨w0, e0⟩ : ∃ w0, w0 = w := ⟨w, rfl⟩
  subst e0
  have H := Hd.start w0
  refine CC.of (N := 10) Try.func49 rfl rfl rfl ?_
  refine WC.seq ?_
  refine WC.region ?_
  refine l_rd rfl rfl (x_assign ev_c) ?_
  refine WL.nil ?_
  refine WC.seq ?_
  refine WC.region ?_
  refine l_rd rfl rfl (x_move (by conv => lhs; whnf)) ?_
  refine l_rd rfl rfl (x_add rfl rfl (by omega) (by omega)) ?_
  refine l_rd rfl rfl (x_mul rfl rfl (by omega) (by omega)) ?_
  refine l_rd rfl rfl (x_move (by conv => lhs; whnf)) ?_
  refine l_rd rfl rfl (x_add rfl rfl (by omega) (by omega)) ?_
  refine l_rd rfl rfl (x_assign (by conv => lhs; whnf)) ?_
  refine WL.nil ?_
  refine WC.ret ?_
  refine atRet ?_
  exact RetM.one rfl (by (conv => lhs; whnf); try rfl) (⟨rfl, H.below 0 rfl⟩)

theorem c52 {k i : Int} (w : World) (h0 : 0 ≤ k ∧ k ≤ 10) (h1 : 0 ≤ i ∧ i ≤ 100000) : CC Try.prog 52 [I k, I i].toArray w (fun r w' => r = .agg (prC (mkP k i)).toArray ∧ Ext w w') := by
  obtain ⟨w0, e0⟩ : ∃ w0, w0 = w := ⟨w, rfl⟩
  subst e0
  have H := Hd.start w0
  refine CC.of (N := 10) Try.func52 rfl rfl rfl ?_
  refine WC.seq ?_
  refine WC.region ?_
  refine l_st rfl (s_alloc ty86 H fun b4 w H => ?_)
  refine WL.nil ?_
  refine WC.seq ?_
  refine WC.region ?_
  refine l_rd rfl rfl (x_move (by conv => lhs; whnf)) ?_
  refine l_rd rfl rfl (x_move (by conv => lhs; whnf)) ?_
  refine l_st rfl (s_callL cal49 (c49 _ h0 h1) ?_)
  rintro _ w ⟨rfl, e1⟩
  have H := H.ext e1
  refine l_rd rfl rfl (x_buildL (pl := [(0, 1), (1, 1), (2, 1)]) (cells := [I 0, I (mk k i), S ⟨#[]⟩]) Try.underlying84 ty84 (by kernel_rfl) rfl) ?_
  refine l_rd rfl rfl (x_buildL (pl := [(0, 1), (1, 3)]) (cells := [S ⟨#[109]⟩, I 0, I (mk k i), S ⟨#[]⟩]) Try.underlying86 ty86 (by kernel_rfl) rfl) ?_
  refine l_no (s_stA 0 rfl ty86 rfl (by conv => lhs; whnf) rfl rfl rfl H fun w H => ?_)
  refine WL.nil ?_
  refine WC.ret ?_
  refine atRet ?_
  exact RetM.cell1A (vs := [_, _, _, _]) rfl (by (conv => lhs; whnf); try rfl) Try.underlying86 rfl ty86 rfl (H.cellsL 0 rfl rfl) (⟨rfl, H.below 1 rfl⟩)

theorem c25 {k i : Int} (w : World) (h0 : 0 ≤ k ∧ k ≤ 10) (h1 : 0 ≤ i ∧ i ≤ 100000) : CC Try.prog 25 [I k, I i].toArray w (fun r w' => r = .agg (edC (mkE k i)).toArray ∧ Ext w w') := by
  obtain ⟨w0, e0⟩ : ∃ w0, w0 = w := ⟨w, rfl⟩
  subst e0
  have H := Hd.start w0
  refine CC.of (N := 9) Try.func25 rfl rfl rfl ?_
  refine WC.seq ?_
  refine WC.region ?_
  refine l_st rfl (s_alloc ty33 H fun b4 w H => ?_)
  refine WL.nil ?_
  refine WC.seq ?_
  refine WC.region ?_
  refine l_rd rfl rfl (x_move (by conv => lhs; whnf)) ?_
  refine l_rd rfl rfl (x_move (by conv => lhs; whnf)) ?_
  refine l_st rfl (s_callL cal49 (c49 _ h0 h1) ?_)
  rintro _ w ⟨rfl, e1⟩
  have H := H.ext e1
  refine l_rd rfl rfl (x_buildL (pl := [(0, 1), (1, 1), (2, 1), (3, 1), (4, 1)]) (cells := [S ⟨#[]⟩, S ⟨#[]⟩, S ⟨#[]⟩, I (mk k i), .slice none 0 0]) Try.underlying33 ty33 (by kernel_rfl) rfl) ?_
  refine l_no (s_stA 0 rfl ty33 rfl (by conv => lhs; whnf) rfl rfl rfl H fun w H => ?_)
  refine WL.nil ?_
  refine WC.ret ?_
  refine atRet ?_
  exact RetM.cell1A (vs := [_, _, _, _, _]) rfl (by (conv => lhs; whnf); try rfl) Try.underlying33 rfl ty33 rfl (H.cellsL 0 rfl rfl) (⟨rfl, H.below 1 rfl⟩)

theorem c19 {a b : ByteArray} {t : Int} (w : World) : CC Try.prog 19 [S a, S b, I t].toArray w (fun r w' => r = .agg (edC ⟨a, b, ⟨#[120]⟩, t, .slice none 0 0⟩).toArray ∧ Ext w w') := by
  obtain ⟨w0, e0⟩ : ∃ w0, w0 = w := ⟨w, rfl⟩
  subst e0
  have H := Hd.start w0
  refine CC.of (N := 11) Try.func19 rfl rfl rfl ?_
  refine WC.seq ?_
  refine WC.region ?_
  refine l_st rfl (s_alloc ty33 H fun b6 w H => ?_)
  refine WL.nil ?_
  refine WC.seq ?_
  refine WC.region ?_
  refine l_rd rfl rfl (x_move (by conv => lhs; whnf)) ?_
  refine l_rd rfl rfl (x_move (by conv => lhs; whnf)) ?_
  refine l_rd rfl rfl (x_move (by conv => lhs; whnf)) ?_
  refine l_rd rfl rfl (x_buildL (pl := [(0, 1), (1, 1), (2, 1), (3, 1), (4, 1)]) (cells := [S a, S b, S ⟨#[120]⟩, I t, .slice none 0 0]) Try.underlying33 ty33 (by kernel_rfl) rfl) ?_
  refine l_no (s_stA 0 rfl ty33 rfl (by conv => lhs; whnf) rfl rfl rfl H fun w H => ?_)
  refine WL.nil ?_
  refine WC.ret ?_
  refine atRet ?_
  exact RetM.cell1A (vs := [_, _, _, _, _]) rfl (by (conv => lhs; whnf); try rfl) Try.underlying33 rfl ty33 rfl (H.cellsL 0 rfl rfl) (⟨rfl, H.below 1 rfl⟩)

theorem c46 {va vb : Value} {xs ys : List Pr} (w : World) (hx : RdS w va 4 prC xs) (hy : RdS w vb 4 prC ys) : CC Try.prog 46 [va, vb].toArray w (fun r w' => r = .bool (decide (xs = ys)) ∧ Ext w w') := by
  obtain ⟨w0, e0⟩ : ∃ w0, w0 = w := ⟨w, rfl⟩
  subst e0
  have H := Hd.start w0
  obtain ⟨a, c, rfl⟩ := hx.shape
  obtain ⟨a2, c2, rfl⟩ := hy.shape
  have hbx := hx.le
  have hby := hy.le
  refine CC.of (N := 26) Try.func46 rfl rfl rfl ?_
  refine WC.seq ?_
  refine WC.region ?_
  refine l_rd rfl rfl (x_assign ev_c) ?_
  refine WL.nil ?_
  refine WC.seq ?_
  refine WC.seq ?_
  refine WC.region ?_
  refine l_rd rfl rfl (x_move (by conv => lhs; whnf)) ?_
  refine l_rd rfl rfl (x_lenSlice Try.underlying31 rfl rfl) ?_
  refine l_rd rfl rfl (x_move (by conv => lhs; whnf)) ?_
  refine l_rd rfl rfl (x_lenSlice Try.underlying31 rfl rfl) ?_
  refine l_rdD rfl rfl (x_neq rfl rfl) (fun h10 => ?_) (fun h10 => ?_)
  ·
    refine WL.nil ?_
    refine WC.cond1 rfl ?_
    refine WC.seq ?_
    refine WC.region ?_
    refine l_rd rfl rfl (x_assign ev_c) ?_
    refine WL.nil ?_
    refine WC.ret ?_
    refine atRet ?_
    exact RetM.one rfl (by (conv => lhs; whnf); try rfl) (⟨by rw [decide_eq_false (fun e => h10 (by rw [e]))], H.below 0 rfl⟩)
  ·
    refine WL.nil ?_
    refine WC.cond0 rfl ?_
    refine WC.skip ?_
    refine WC.seq ?_
    refine WC.seq ?_
    refine WC.region ?_
    refine l_rd rfl rfl (x_assign ev_c) ?_
    refine WL.nil ?_
    refine WC.block ?_
    refine WC.loop (fun ρ ds w => ∃ k : Nat, k ≤ xs.length ∧ (∀ j, j < k → xs[j]? = ys[j]?) ∧ ρ 5 = I k ∧ ρ 0 = .slice a xs.length c ∧ ρ 1 = .slice a2 ys.length c2 ∧ ds = [] ∧ Hd (sy w0) w [fr w0]) (fun ρ w => xs.length - (match ρ 5 with | .int _ k => k.toNat | _ => 0)) (⟨0, Nat.zero_le _, fun j h => absurd h (by omega), rfl, rfl, rfl, rfl, H⟩) ?_
    repeat clear H
    rintro ρ ds w ⟨k, hk, he, h5, h0, h1, rfl, H⟩
    refine WC.seq ?_
    refine WC.seq ?_
    refine WC.region ?_
    refine l_rd rfl rfl (x_move h5) ?_
    refine l_rd rfl rfl (x_move h0) ?_
    refine l_rd rfl rfl (x_lenSlice Try.underlying31 rfl rfl) ?_
    refine l_rdD rfl rfl (x_lss rfl rfl) (fun h14 => ?_) (fun h14 => ?_)
    ·
      refine WL.nil ?_
      refine WC.cond1 rfl ?_
      refine WC.skip ?_
      refine WC.seq ?_
      refine WC.block ?_
      refine WC.seq ?_
      obtain ⟨x, hxk⟩ := lt_get (show k < xs.length by omega)
      obtain ⟨y, hyk⟩ := lt_get (show k < ys.length by omega)
      obtain ⟨b1, o1, rfl, hc1⟩ := hx.el prC_len hxk
      obtain ⟨b2, o2, rfl, hc2⟩ := hy.el prC_len hyk
      refine WC.draw mixed [] [[], [], [0, 1], [0, 1, 2], [], [], [4, 5], [4, 5, 6], [0, 1, 2, 3, 4, 5, 6, 7]] [0, 1, 2, 3, 4, 5, 6, 7, 8] (by kernel_rfl) ?_
      have H := H.drew
      refine k_rd rfl rfl (RS.of rfl rfl (x_move h0)) ?_
      refine k_rd rfl rfl (RS.of rfl rfl (x_move h5)) ?_
      refine k_rd rfl rfl (RS.of rfl rfl (x_indexAddr Try.underlying31 ty86 rfl rfl (by omega) (by omega))) ?_
      refine k_rd rfl rfl (RS.of rfl rfl (x_loadF (vs := [_, _, _, _]) Try.underlying86 rfl ty86 rfl rfl (sub_row 0 (fun j u hj => (H.old 0 rfl).cell (hc1 j u hj)) rfl))) ?_
      refine k_rd rfl rfl (RS.of rfl rfl (x_move h1)) ?_
      refine k_rd rfl rfl (RS.of rfl rfl (x_move h5)) ?_
      refine k_rd rfl rfl (RS.of rfl rfl (x_indexAddr Try.underlying31 ty86 rfl rfl (by omega) (by omega))) ?_
      refine k_rd rfl rfl (RS.of rfl rfl (x_loadF (vs := [_, _, _, _]) Try.underlying86 rfl ty86 rfl rfl (sub_row 0 (fun j u hj => (H.old 0 rfl).cell (hc2 j u hj)) rfl))) ?_
      refine k_rdD rfl rfl rfl rfl (x_neqA (by kernel_rfl) rfl rfl eq86) (fun h25 => ?_) (fun h25 => ?_)
      ·
        show _
        refine WC.cond1 rfl ?_
        refine WC.seq ?_
        refine WC.region ?_
        refine l_rd rfl rfl (x_assign ev_c) ?_
        refine WL.nil ?_
        refine WC.ret ?_
        refine atRet ?_
        exact RetM.one rfl (by (conv => lhs; whnf); try rfl) (⟨by rw [decide_eq_false (fun e => h25 (by subst e; rw [hxk] at hyk; exact (Option.some.inj hyk)))], H.below 0 rfl⟩)
      ·
        show _
        refine WC.cond0 rfl ?_
        refine WC.skip ?_
        refine WC.region ?_
        refine l_rd rfl rfl (x_move h5) ?_
        refine l_rd rfl rfl (x_add rfl rfl (by omega) (by omega)) ?_
        refine l_rd rfl rfl (x_assign (by conv => lhs; whnf)) ?_
        refine WL.nil ?_
        refine WC.again (⟨k + 1, by omega, fun j hj => by
              by_cases e : j = k
              · subst e; rw [hxk, hyk]; exact congrArg some (Classical.not_not.1 h25)
              · exact he j (by omega), rfl, h0, h1, rfl, H⟩) (by show _ - _ < _ - _; rw [h5]; show xs.length - ((k : Int) + 1).toNat < xs.length - (k : Int).toNat; omega)
    ·
      refine WL.nil ?_
      refine WC.cond0 rfl ?_
      refine WC.exit ?_
      refine WC.seq ?_
      refine WC.region ?_
      refine l_rd rfl rfl (x_assign ev_c) ?_
      refine WL.nil ?_
      refine WC.ret ?_
      refine atRet ?_
      exact RetM.one rfl (by (conv => lhs; whnf); try rfl) (⟨by rw [decide_eq_true (list_eq (by omega) (fun j hj => he j (by omega)))], H.below 0 rfl⟩)

end Go.Proofs.Ytahdodijpmkddaa
set_option linter.unusedVariables false
set_option linter.unusedSimpArgs false
namespace Go.Proofs.Ytahdodijpmkddaa
open Go Go.RowKit KE Go.Proofs
theorem ty3 : Ty Try.prog 3 (.int .i64 0) 1 8 := Ty.of (by kernel_rfl)
theorem ty9 : Ty Try.prog 9 (.string ⟨#[]⟩) 1 16 := Ty.of (by kernel_rfl)
theorem ty31 : Ty Try.prog 31 (.slice none 0 0) 1 24 := Ty.of (by kernel_rfl)
theorem cal23 : Cal Try.prog 23 := ⟨_, Try.func23, rfl, by decide⟩
theorem cal46 : Cal Try.prog 46 := ⟨_, Try.func46, rfl, by decide⟩
theorem cal52 : Cal Try.prog 52 := ⟨_, Try.func52, rfl, by decide⟩

def mksK (k : Nat) : List Pr := (List.range k).map fun (i : Nat) => mkP 1 (i : Int)
theorem mksK_len (k : Nat) : (mksK k).length = k := by simp [mksK]
theorem mksK_at {k i : Nat} (h : i < k) : (mksK k)[i]? = some (mkP 1 (i : Int)) := by simp [mksK, List.getElem?_range h]
theorem mksK_succ (k : Nat) : mksK (k + 1) = mksK k ++ [mkP 1 (k : Int)] := by simp [mksK, List.range_succ]
theorem prC_one (xs : List Pr) : ∀ u ∈ xs.flatMap prC, oneC u = true := by
  intro u hu
  obtain ⟨p, _, hp⟩ := List.mem_flatMap.1 hu
  simp only [prC, List.mem_cons, List.not_mem_nil, or_false] at hp
  rcases hp with rfl | rfl | rfl | rfl <;> rfl
theorem c23 {e f : Ed} {x y : Eg} (w : World) (hx : EdR w e x) (hy : EdR w f y) : CC Try.prog 23 [.agg (edC e).toArray, .agg (edC f).toArray].toArray w (fun r w' => r = .bool (decide (x = y)) ∧ Ext w w') := by
  obtain ⟨w0, e0⟩ : ∃ w0, w0 = w := ⟨w, rfl⟩
  subst e0
  have H := Hd.start w0
  obtain ⟨m1, m2, m3, m4, hp⟩ := hx
  obtain ⟨n1, n2, n3, n4, hq⟩ := hy
  refine CC.of (N := 38) Try.func23 rfl rfl rfl ?_
  refine WC.seq ?_
  refine WC.region ?_
  refine l_st rfl (s_box (by conv => lhs; whnf) H fun b2 w H => ?_)
  refine l_st rfl (s_box (by conv => lhs; whnf) H fun b3 w H => ?_)
  refine l_rd rfl rfl (x_assign ev_c) ?_
  refine WL.nil ?_
  refine WC.seq ?_
  refine WC.region ?_
  refine l_rd rfl rfl (x_fieldAddr Try.underlying33 rfl rfl ty9 (by decide) rfl) ?_
  refine l_rd rfl rfl (x_load Try.underlying9 rfl rfl (H.cellL 1 rfl rfl)) ?_
  refine l_rd rfl rfl (x_fieldAddr Try.underlying33 rfl rfl ty9 (by decide) rfl) ?_
  refine l_rd rfl rfl (x_load Try.underlying9 rfl rfl (H.cellL 0 rfl rfl)) ?_
  refine l_rdD rfl rfl (x_eqlS rfl rfl) (fun h9 => ?_) (fun h9 => ?_)
  ·
    refine l_rd rfl rfl (x_move (by conv => lhs; whnf)) ?_
    refine l_gy (wantY rfl rfl rfl) rfl rfl (x_fieldAddr Try.underlying33 rfl rfl ty9 (by decide) rfl) ?_
    refine l_gy (wantY rfl rfl rfl) rfl rfl (x_load Try.underlying9 rfl rfl (H.cellL 1 rfl rfl)) ?_
    refine l_gy (wantY rfl rfl rfl) rfl rfl (x_fieldAddr Try.underlying33 rfl rfl ty9 (by decide) rfl) ?_
    refine l_gy (wantY rfl rfl rfl) rfl rfl (x_load Try.underlying9 rfl rfl (H.cellL 0 rfl rfl)) ?_
    refine l_gyD (wantY rfl rfl rfl) rfl rfl (x_eqlS rfl rfl) (fun h15 => ?_) (fun h15 => ?_)
    ·
      refine l_rd rfl rfl (x_pick1 rfl (by conv => lhs; whnf)) ?_
      refine l_rd rfl rfl (x_move (by conv => lhs; whnf)) ?_
      refine l_gy (wantY rfl rfl rfl) rfl rfl (x_fieldAddr Try.underlying33 rfl rfl ty9 (by decide) rfl) ?_
      refine l_gy (wantY rfl rfl rfl) rfl rfl (x_load Try.underlying9 rfl rfl (H.cellL 1 rfl rfl)) ?_
      refine l_gy (wantY rfl rfl rfl) rfl rfl (x_fieldAddr Try.underlying33 rfl rfl ty9 (by decide) rfl) ?_
      refine l_gy (wantY rfl rfl rfl) rfl rfl (x_load Try.underlying9 rfl rfl (H.cellL 0 rfl rfl)) ?_
      refine l_gyD (wantY rfl rfl rfl) rfl rfl (x_eqlS rfl rfl) (fun h22 => ?_) (fun h22 => ?_)
      ·
        refine l_rd rfl rfl (x_pick1 rfl (by conv => lhs; whnf)) ?_
        refine l_rd rfl rfl (x_move (by conv => lhs; whnf)) ?_
        refine l_gy (wantY rfl rfl rfl) rfl rfl (x_fieldAddr Try.underlying33 rfl rfl ty3 (by decide) rfl) ?_
        refine l_gy (wantY rfl rfl rfl) rfl rfl (x_load Try.underlying3 rfl rfl (H.cellL 1 rfl rfl)) ?_
        refine l_gy (wantY rfl rfl rfl) rfl rfl (x_fieldAddr Try.underlying33 rfl rfl ty3 (by decide) rfl) ?_
        refine l_gy (wantY rfl rfl rfl) rfl rfl (x_load Try.underlying3 rfl rfl (H.cellL 0 rfl rfl)) ?_
        refine l_gyD (wantY rfl rfl rfl) rfl rfl (x_eql rfl rfl) (fun h29 => ?_) (fun h29 => ?_)
        ·
          refine l_rd rfl rfl (x_pick1 rfl (by conv => lhs; whnf)) ?_
          refine l_rd rfl rfl (x_move (by conv => lhs; whnf)) ?_
          refine l_gy (wantY rfl rfl rfl) rfl rfl (x_fieldAddr Try.underlying33 rfl rfl ty31 (by decide) rfl) ?_
          refine l_gy (wantY rfl rfl rfl) rfl rfl (x_load Try.underlying31 rfl rfl (H.cellL 1 rfl rfl)) ?_
          refine l_gy (wantY rfl rfl rfl) rfl rfl (x_fieldAddr Try.underlying33 rfl rfl ty31 (by decide) rfl) ?_
          refine l_gy (wantY rfl rfl rfl) rfl rfl (x_load Try.underlying31 rfl rfl (H.cellL 0 rfl rfl)) ?_
          refine l_gst (wantY rfl rfl rfl) rfl (s_callL cal46 (c46 _ ((H.old 2 rfl).rdS hp) ((H.old 2 rfl).rdS hq)) ?_)
          rintro _ w ⟨rfl, e1⟩
          have H := H.ext e1
          refine l_rd rfl rfl (x_pick1 rfl (by conv => lhs; whnf)) ?_
          refine l_rd rfl rfl (x_assign (by conv => lhs; whnf)) ?_
          refine WL.nil ?_
          refine WC.ret ?_
          refine atRet ?_
          exact RetM.one rfl (by (conv => lhs; whnf); try rfl) (⟨by congr 1; exact decide_eq_decide.2 ⟨fun h => eg_iff.2 ⟨by rw [← m1, ← n1]; exact h9, by rw [← m2, ← n2]; exact h15, by rw [← m3, ← n3]; exact h22, by rw [← m4, ← n4]; exact h29, h⟩, fun h => (eg_iff.1 h).2.2.2.2⟩, H.below 2 rfl⟩)
        ·
          refine l_rd rfl rfl (x_pick1 rfl (by conv => lhs; whnf)) ?_
          refine l_rd rfl rfl (x_move (by conv => lhs; whnf)) ?_
          refine l_gn (wantN rfl rfl rfl) rfl ?_
          refine l_gn (wantN rfl rfl rfl) rfl ?_
          refine l_gn (wantN rfl rfl rfl) rfl ?_
          refine l_gn (wantN rfl rfl rfl) rfl ?_
          refine l_gn (wantN rfl rfl rfl) rfl ?_
          refine l_rd rfl rfl (x_pick0 rfl ev_c) ?_
          refine l_rd rfl rfl (x_assign (by conv => lhs; whnf)) ?_
          refine WL.nil ?_
          refine WC.ret ?_
          refine atRet ?_
          exact RetM.one rfl (by (conv => lhs; whnf); try rfl) (⟨by rw [decide_eq_false (fun e => h29 (by rw [m4, n4, e]))], H.below 2 rfl⟩)
      ·
        refine l_rd rfl rfl (x_pick1 rfl (by conv => lhs; whnf)) ?_
        refine l_rd rfl rfl (x_move (by conv => lhs; whnf)) ?_
        refine l_gn (wantN rfl rfl rfl) rfl ?_
        refine l_gn (wantN rfl rfl rfl) rfl ?_
        refine l_gn (wantN rfl rfl rfl) rfl ?_
        refine l_gn (wantN rfl rfl rfl) rfl ?_
        refine l_gn (wantN rfl rfl rfl) rfl ?_
        refine l_rd rfl rfl (x_pick0 rfl ev_c) ?_
        refine l_rd rfl rfl (x_move (by conv => lhs; whnf)) ?_
        refine l_gn (wantN rfl rfl rfl) rfl ?_
        refine l_gn (wantN rfl rfl rfl) rfl ?_
        refine l_gn (wantN rfl rfl rfl) rfl ?_
        refine l_gn (wantN rfl rfl rfl) rfl ?_
        refine l_gn (wantN rfl rfl rfl) rfl ?_
        refine l_rd rfl rfl (x_pick0 rfl ev_c) ?_
        refine l_rd rfl rfl (x_assign (by conv => lhs; whnf)) ?_
        refine WL.nil ?_
        refine WC.ret ?_
        refine atRet ?_
        exact RetM.one rfl (by (conv => lhs; whnf); try rfl) (⟨by rw [decide_eq_false (fun e => h22 (by rw [m3, n3, e]))], H.below 2 rfl⟩)
    ·
      refine l_rd rfl rfl (x_pick1 rfl (by conv => lhs; whnf)) ?_
      refine l_rd rfl rfl (x_move (by conv => lhs; whnf)) ?_
      refine l_gn (wantN rfl rfl rfl) rfl ?_
      refine l_gn (wantN rfl rfl rfl) rfl ?_
      refine l_gn (wantN rfl rfl rfl) rfl ?_
      refine l_gn (wantN rfl rfl rfl) rfl ?_
      refine l_gn (wantN rfl rfl rfl) rfl ?_
      refine l_rd rfl rfl (x_pick0 rfl ev_c) ?_
      refine l_rd rfl rfl (x_move (by conv => lhs; whnf)) ?_
      refine l_gn (wantN rfl rfl rfl) rfl ?_
      refine l_gn (wantN rfl rfl rfl) rfl ?_
      refine l_gn (wantN rfl rfl rfl) rfl ?_
      refine l_gn (wantN rfl rfl rfl) rfl ?_
      refine l_gn (wantN rfl rfl rfl) rfl ?_
      refine l_rd rfl rfl (x_pick0 rfl ev_c) ?_
      refine l_rd rfl rfl (x_move (by conv => lhs; whnf)) ?_
      refine l_gn (wantN rfl rfl rfl) rfl ?_
      refine l_gn (wantN rfl rfl rfl) rfl ?_
      refine l_gn (wantN rfl rfl rfl) rfl ?_
      refine l_gn (wantN rfl rfl rfl) rfl ?_
      refine l_gn (wantN rfl rfl rfl) rfl ?_
      refine l_rd rfl rfl (x_pick0 rfl ev_c) ?_
      refine l_rd rfl rfl (x_assign (by conv => lhs; whnf)) ?_
      refine WL.nil ?_
      refine WC.ret ?_
      refine atRet ?_
      exact RetM.one rfl (by (conv => lhs; whnf); try rfl) (⟨by rw [decide_eq_false (fun e => h15 (by rw [m2, n2, e]))], H.below 2 rfl⟩)
  ·
    refine l_rd rfl rfl (x_move (by conv => lhs; whnf)) ?_
    refine l_gn (wantN rfl rfl rfl) rfl ?_
    refine l_gn (wantN rfl rfl rfl) rfl ?_
    refine l_gn (wantN rfl rfl rfl) rfl ?_
    refine l_gn (wantN rfl rfl rfl) rfl ?_
    refine l_gn (wantN rfl rfl rfl) rfl ?_
    refine l_rd rfl rfl (x_pick0 rfl ev_c) ?_
    refine l_rd rfl rfl (x_move (by conv => lhs; whnf)) ?_
    refine l_gn (wantN rfl rfl rfl) rfl ?_
    refine l_gn (wantN rfl rfl rfl) rfl ?_
    refine l_gn (wantN rfl rfl rfl) rfl ?_
    refine l_gn (wantN rfl rfl rfl) rfl ?_
    refine l_gn (wantN rfl rfl rfl) rfl ?_
    refine l_rd rfl rfl (x_pick0 rfl ev_c) ?_
    refine l_rd rfl rfl (x_move (by conv => lhs; whnf)) ?_
    refine l_gn (wantN rfl rfl rfl) rfl ?_
    refine l_gn (wantN rfl rfl rfl) rfl ?_
    refine l_gn (wantN rfl rfl rfl) rfl ?_
    refine l_gn (wantN rfl rfl rfl) rfl ?_
    refine l_gn (wantN rfl rfl rfl) rfl ?_
    refine l_rd rfl rfl (x_pick0 rfl ev_c) ?_
    refine l_rd rfl rfl (x_move (by conv => lhs; whnf)) ?_
    refine l_gn (wantN rfl rfl rfl) rfl ?_
    refine l_gn (wantN rfl rfl rfl) rfl ?_
    refine l_gn (wantN rfl rfl rfl) rfl ?_
    refine l_gn (wantN rfl rfl rfl) rfl ?_
    refine l_gn (wantN rfl rfl rfl) rfl ?_
    refine l_rd rfl rfl (x_pick0 rfl ev_c) ?_
    refine l_rd rfl rfl (x_assign (by conv => lhs; whnf)) ?_
    refine WL.nil ?_
    refine WC.ret ?_
    refine atRet ?_
    exact RetM.one rfl (by (conv => lhs; whnf); try rfl) (⟨by rw [decide_eq_false (fun e => h9 (by rw [m1, n1, e]))], H.below 2 rfl⟩)

theorem c9 {va vb : Value} {xs ys : List Eg} (w : World) (hx : EdL w va xs) (hy : EdL w vb ys) : CC Try.prog 9 [va, vb].toArray w (fun r w' => r = .bool (decide (xs = ys)) ∧ Ext w w') := by
  obtain ⟨w0, e0⟩ : ∃ w0, w0 = w := ⟨w, rfl⟩
  subst e0
  have H := Hd.start w0
  obtain ⟨a, c, rfl⟩ := hx.shape
  obtain ⟨a2, c2, rfl⟩ := hy.shape
  have hbx := hx.le
  have hby := hy.le
  refine CC.of (N := 27) Try.func9 rfl rfl rfl ?_
  refine WC.seq ?_
  refine WC.region ?_
  refine l_rd rfl rfl (x_assign ev_c) ?_
  refine WL.nil ?_
  refine WC.seq ?_
  refine WC.seq ?_
  refine WC.region ?_
  refine l_rd rfl rfl (x_move (by conv => lhs; whnf)) ?_
  refine l_rd rfl rfl (x_lenSlice Try.underlying28 rfl rfl) ?_
  refine l_rd rfl rfl (x_move (by conv => lhs; whnf)) ?_
  refine l_rd rfl rfl (x_lenSlice Try.underlying28 rfl rfl) ?_
  refine l_rdD rfl rfl (x_neq rfl rfl) (fun h10 => ?_) (fun h10 => ?_)
  ·
    refine WL.nil ?_
    refine WC.cond1 rfl ?_
    refine WC.seq ?_
    refine WC.region ?_
    refine l_rd rfl rfl (x_assign ev_c) ?_
    refine WL.nil ?_
    refine WC.ret ?_
    refine atRet ?_
    exact RetM.one rfl (by (conv => lhs; whnf); try rfl) (⟨by rw [decide_eq_false (fun e => h10 (by rw [e]))], H.below 0 rfl⟩)
  ·
    refine WL.nil ?_
    refine WC.cond0 rfl ?_
    refine WC.skip ?_
    refine WC.seq ?_
    refine WC.seq ?_
    refine WC.region ?_
    refine l_rd rfl rfl (x_assign ev_c) ?_
    refine WL.nil ?_
    refine WC.block ?_
    refine WC.loop (fun ρ ds w => ∃ k : Nat, k ≤ xs.length ∧ (∀ j, j < k → xs[j]? = ys[j]?) ∧ ρ 5 = I k ∧ ρ 0 = .slice a xs.length c ∧ ρ 1 = .slice a2 ys.length c2 ∧ ds = [] ∧ Hd (sy w0) w [fr w0]) (fun ρ w => xs.length - (match ρ 5 with | .int _ k => k.toNat | _ => 0)) (⟨0, Nat.zero_le _, fun j h => absurd h (by omega), rfl, rfl, rfl, rfl, H⟩) ?_
    repeat clear H
    rintro ρ ds w ⟨k, hk, he, h5, h0, h1, rfl, H⟩
    refine WC.seq ?_
    refine WC.seq ?_
    refine WC.region ?_
    refine l_rd rfl rfl (x_move h5) ?_
    refine l_rd rfl rfl (x_move h0) ?_
    refine l_rd rfl rfl (x_lenSlice Try.underlying28 rfl rfl) ?_
    refine l_rdD rfl rfl (x_lss rfl rfl) (fun h14 => ?_) (fun h14 => ?_)
    ·
      refine WL.nil ?_
      refine WC.cond1 rfl ?_
      refine WC.skip ?_
      refine WC.seq ?_
      refine WC.block ?_
      refine WC.seq ?_
      obtain ⟨x, hxk⟩ := lt_get (show k < xs.length by omega)
      obtain ⟨y, hyk⟩ := lt_get (show k < ys.length by omega)
      obtain ⟨b1, o1, e, rfl, hc1, hex⟩ := hx.el hxk
      obtain ⟨b2, o2, f, rfl, hc2, hey⟩ := hy.el hyk
      refine WC.draw mixed [8] [[], [], [0, 1], [0, 1, 2], [], [], [4, 5], [4, 5, 6], [0, 1, 2, 3, 4, 5, 6, 7], [0, 1, 2, 3, 4, 5, 6, 7, 8]] [0, 1, 2, 3, 4, 5, 6, 7, 8, 9] (by kernel_rfl) ?_
      have H := H.drew
      refine k_rd rfl rfl (RS.of rfl rfl (x_move h0)) ?_
      refine k_rd rfl rfl (RS.of rfl rfl (x_move h5)) ?_
      refine k_rd rfl rfl (RS.of rfl rfl (x_indexAddr Try.underlying28 ty33 rfl rfl (by omega) (by omega))) ?_
      refine k_rd rfl rfl (RS.of rfl rfl (x_loadF (vs := [_, _, _, _, _]) Try.underlying33 rfl ty33 rfl rfl (sub_row 0 (fun j u hj => (H.old 0 rfl).cell (hc1 j u hj)) rfl))) ?_
      refine k_rd rfl rfl (RS.of rfl rfl (x_move h1)) ?_
      refine k_rd rfl rfl (RS.of rfl rfl (x_move h5)) ?_
      refine k_rd rfl rfl (RS.of rfl rfl (x_indexAddr Try.underlying28 ty33 rfl rfl (by omega) (by omega))) ?_
      refine k_rd rfl rfl (RS.of rfl rfl (x_loadF (vs := [_, _, _, _, _]) Try.underlying33 rfl ty33 rfl rfl (sub_row 0 (fun j u hj => (H.old 0 rfl).cell (hc2 j u hj)) rfl))) ?_
      refine k_st rfl rfl rfl (s_callL cal23 (c23 _ (hex.old (H.old 0 rfl)) (hey.old (H.old 0 rfl))) ?_)
      rintro r w ⟨hr1, e1⟩
      have H := H.ext e1
      by_cases h25 : x = y
      ·
        obtain rfl : r = .bool true := by rw [hr1, decide_eq_true h25]
        refine ⟨⟨trivial, ⟨trivial, ⟨trivial, ⟨trivial, ⟨trivial, ⟨trivial, ⟨trivial, ⟨trivial, trivial⟩⟩⟩⟩⟩⟩⟩⟩, ?_⟩
        refine k_rd rfl rfl (RS.of rfl rfl (x_not rfl)) ?_
        show _
        refine WC.cond0 rfl ?_
        refine WC.skip ?_
        refine WC.region ?_
        refine l_rd rfl rfl (x_move h5) ?_
        refine l_rd rfl rfl (x_add rfl rfl (by omega) (by omega)) ?_
        refine l_rd rfl rfl (x_assign (by conv => lhs; whnf)) ?_
        refine WL.nil ?_
        refine WC.again (⟨k + 1, by omega, fun j hj => by
              by_cases e : j = k
              · subst e; rw [hxk, hyk, h25]
              · exact he j (by omega), rfl, h0, h1, rfl, H⟩) (by show _ - _ < _ - _; rw [h5]; show xs.length - ((k : Int) + 1).toNat < xs.length - (k : Int).toNat; omega)
      ·
        obtain rfl : r = .bool false := by rw [hr1, decide_eq_false h25]
        refine ⟨⟨trivial, ⟨trivial, ⟨trivial, ⟨trivial, ⟨trivial, ⟨trivial, ⟨trivial, ⟨trivial, trivial⟩⟩⟩⟩⟩⟩⟩⟩, ?_⟩
        refine k_rd rfl rfl (RS.of rfl rfl (x_not rfl)) ?_
        show _
        refine WC.cond1 rfl ?_
        refine WC.seq ?_
        refine WC.region ?_
        refine l_rd rfl rfl (x_assign ev_c) ?_
        refine WL.nil ?_
        refine WC.ret ?_
        refine atRet ?_
        exact RetM.one rfl (by (conv => lhs; whnf); try rfl) (⟨by rw [decide_eq_false (fun q => h25 (by subst q; rw [hxk] at hyk; exact Option.some.inj hyk))], H.below 0 rfl⟩)
    ·
      refine WL.nil ?_
      refine WC.cond0 rfl ?_
      refine WC.exit ?_
      refine WC.seq ?_
      refine WC.region ?_
      refine l_rd rfl rfl (x_assign ev_c) ?_
      refine WL.nil ?_
      refine WC.ret ?_
      refine atRet ?_
      exact RetM.one rfl (by (conv => lhs; whnf); try rfl) (⟨by rw [decide_eq_true (list_eq (by omega) (fun j hj => he j (by omega)))], H.below 0 rfl⟩)

theorem c29 {s : Sy} {L : List Hp} {v : Value} {xs : List Pr} (w : World) (H : Hd s w L) (hr : ∀ w (A : List Hp), Hd s w (A ++ L) → RdS w v 4 prC xs) (hb : xs.length ≤ 1000) : CC Try.prog 29 [v].toArray w (fun r w' => ∃ a c, r = .slice a xs.length c ∧ Hd s w' (Sl (.slice a (xs.length + 12) c) 86 4 (xs.length + 12) ((xs ++ mksK 12).flatMap prC) :: L)) := by
  obtain ⟨a, c, rfl⟩ := (hr w [] H).shape
  refine CC.of (N := 25) Try.func29 rfl rfl rfl ?_
  refine WC.seq ?_
  refine WC.region ?_
  refine l_rd rfl rfl (x_assign ev_c) ?_
  refine WL.nil ?_
  refine WC.seq ?_
  refine WC.region ?_
  refine l_rd rfl rfl (x_move (by conv => lhs; whnf)) ?_
  refine l_rd rfl rfl (x_lenSlice Try.underlying31 rfl rfl) ?_
  refine l_rd rfl rfl (x_add rfl rfl (by omega) (by omega)) ?_
  refine l_st rfl (s_makeSlice0 (m := (xs.length + 12)) Try.underlying31 ty86 rfl (by decide) rfl rfl (by omega) (by omega) (by omega) H fun b8 w H => ?_)
  refine l_rd rfl rfl (x_assign (by conv => lhs; whnf)) ?_
  refine WL.nil ?_
  refine WC.seq ?_
  refine WC.region ?_
  refine l_rd rfl rfl (x_move (by conv => lhs; whnf)) ?_
  refine l_rd rfl rfl (x_move (by conv => lhs; whnf)) ?_
  refine l_st rfl (s_append Try.underlying31 ty86 rfl (by decide) (by decide) rfl 0 rfl rfl rfl (hr _ [_] H) (prC_one _) (by omega) H fun v11 w H => ?_)
  obtain ⟨a11, c11, rfl⟩ := (H.sl 0 rfl).shape
  refine l_rd rfl rfl (x_assign (by conv => lhs; whnf)) ?_
  refine WL.nil ?_
  refine WC.seq ?_
  refine WC.seq ?_
  refine WC.region ?_
  refine l_rd rfl rfl (x_assign ev_c) ?_
  refine WL.nil ?_
  refine WC.block ?_
  refine WC.loop (fun ρ ds w => ∃ (k : Nat) (v : Value), k ≤ 12 ∧ ρ 4 = I k ∧ ρ 3 = v ∧ ρ 0 = .slice a xs.length c ∧ ds = [] ∧ Hd s w (Sl v 86 4 (xs.length + k) ((xs ++ mksK k).flatMap prC) :: L)) (fun ρ w => 12 - (match ρ 4 with | .int _ k => k.toNat | _ => 0)) (⟨0, _, by omega, rfl, (by conv => lhs; whnf), rfl, rfl, by rw [Nat.zero_add] at H; simpa [mksK] using H⟩) ?_
  repeat clear H
  rintro ρ ds w ⟨k, v, hk, h4, h3, h0, rfl, H⟩
  refine WC.seq ?_
  refine WC.seq ?_
  refine WC.region ?_
  refine l_rd rfl rfl (x_move h4) ?_
  refine l_rdD rfl rfl (x_lss rfl rfl) (fun h13 => ?_) (fun h13 => ?_)
  ·
    refine WL.nil ?_
    refine WC.cond1 rfl ?_
    refine WC.skip ?_
    refine WC.seq ?_
    refine WC.block ?_
    refine WC.region ?_
    refine l_rd rfl rfl (x_move h3) ?_
    refine l_rd rfl rfl (x_move h4) ?_
    refine l_st rfl (s_callL cal52 (c52 _ (by omega) (by omega)) ?_)
    rintro _ w ⟨rfl, e1⟩
    have H := H.ext e1
    refine l_st rfl (s_build1A Try.underlying31 ty86 rfl (by decide) (by decide) (by conv => lhs; whnf) rfl H fun b19 w H => ?_)
    refine l_st rfl (s_append Try.underlying31 ty86 rfl (by decide) (by decide) rfl 1 rfl rfl rfl (H.sl 0 rfl) (by simp [Value.oneCell']) (by omega) H fun v20 w H => ?_)
    obtain ⟨a20, c20, rfl⟩ := (H.sl 1 rfl).shape
    refine l_rd rfl rfl (x_assign (by conv => lhs; whnf)) ?_
    refine WL.nil ?_
    refine WC.region ?_
    refine l_rd rfl rfl (x_move h4) ?_
    refine l_rd rfl rfl (x_add rfl rfl (by omega) (by omega)) ?_
    refine l_rd rfl rfl (x_assign (by conv => lhs; whnf)) ?_
    refine WL.nil ?_
    refine WC.again (⟨k + 1, _, by omega, rfl, (by conv => lhs; whnf), h0, rfl, by rw [mksK_succ, ← List.append_assoc, List.flatMap_append]; exact H.drop⟩) (by show _ - _ < _ - _; rw [h4]; show 12 - ((k : Int) + 1).toNat < 12 - (k : Int).toNat; omega)
  ·
    refine WL.nil ?_
    refine WC.cond0 rfl ?_
    refine WC.exit ?_
    refine WC.seq ?_
    obtain rfl : k = 12 := by omega
    obtain ⟨a2, c2, rfl⟩ := (H.sl 0 rfl).shape
    have hcap := (H.cap 0 rfl).1
    refine WC.region ?_
    refine l_rd rfl rfl (x_move h3) ?_
    refine l_rd rfl rfl (x_move h0) ?_
    refine l_rd rfl rfl (x_lenSlice Try.underlying31 rfl rfl) ?_
    refine l_rd rfl rfl (x_sliceTo Try.underlying31 ty86 rfl rfl (by omega) (by omega)) ?_
    refine l_rd rfl rfl (x_assign (by conv => lhs; whnf)) ?_
    refine WL.nil ?_
    refine WC.ret ?_
    refine atRet ?_
    exact RetM.one rfl (by (conv => lhs; whnf); try rfl) (⟨a2, c2, rfl, H⟩)

end Go.Proofs.Ytahdodijpmkddaa
set_option linter.unusedVariables false
set_option linter.unusedSimpArgs false
namespace Go.Proofs.Ytahdodijpmkddaa
open Go Go.RowKit KE Go.Proofs
theorem cal29 : Cal Try.prog 29 := ⟨_, Try.func29, rfl, by decide⟩
theorem cal39 : Cal Try.prog 39 := ⟨_, Try.func39, rfl, by decide⟩
theorem cal62 : Cal Try.prog 62 := ⟨_, Try.func62, rfl, by decide⟩
theorem cal68 : Cal Try.prog 68 := ⟨_, Try.func68, rfl, by decide⟩

theorem _root_.KE.RdS.none {α : Type} {w : World} {n c sz : Nat} {f : α → List Value} {xs : List α} (h : RdS w (.slice none n c) sz f xs) : xs = [] := by
  obtain ⟨_, ⟨h1, _⟩ | ⟨b, o, c', h2, _⟩⟩ := h
  · exact List.eq_nil_of_length_eq_zero h1
  · cases h2
theorem c68 {s : Sy} {L : List Hp} {v : Value} {xs : List Pr} (w : World) (H : Hd s w L) (hr : ∀ w (A : List Hp), Hd s w (A ++ L) → RdS w v 4 prC xs) (hb : xs.length ≤ 1000) : CC Try.prog 68 [v].toArray w (fun r w' => Hd s w' (Sl r 86 4 xs.length (xs.flatMap prC) :: L)) := by
  obtain ⟨a, c, rfl⟩ := (hr w [] H).shape
  refine CC.of (N := 7) Try.func68 rfl rfl rfl ?_
  refine WC.seq ?_
  refine WC.region ?_
  refine l_rd rfl rfl (x_assign ev_c) ?_
  refine WL.nil ?_
  refine WC.seq ?_
  refine WC.region ?_
  refine l_rd rfl rfl (x_assign ev_c) ?_
  refine WL.nil ?_
  refine WC.seq ?_
  have H := Hd.nil H 86 4
  refine WC.region ?_
  refine l_rd rfl rfl (x_move (by conv => lhs; whnf)) ?_
  refine l_rd rfl rfl (x_move (by conv => lhs; whnf)) ?_
  refine l_st rfl (s_append Try.underlying31 ty86 rfl (by decide) (by decide) rfl 0 rfl rfl rfl (hr _ [_] H) (prC_one _) (by omega) H fun v6 w H => ?_)
  obtain ⟨a6, c6, rfl⟩ := (H.sl 0 rfl).shape
  refine l_rd rfl rfl (x_assign (by conv => lhs; whnf)) ?_
  refine WL.nil ?_
  refine WC.ret ?_
  refine atRet ?_
  exact RetM.one rfl (by (conv => lhs; whnf); try rfl) (by rw [Nat.zero_add] at H ⊢; exact H)

theorem c62 {s : Sy} {L : List Hp} {v : Value} {xs : List Pr} (w : World) (H : Hd s w L) (hr : ∀ w (A : List Hp), Hd s w (A ++ L) → RdS w v 4 prC xs) (hb : xs.length ≤ 1000) : CC Try.prog 62 [v].toArray w (fun r w' => Hd s w' (Sl r 86 4 xs.length (xs.flatMap prC) :: L)) := by
  obtain ⟨a, c, rfl⟩ := (hr w [] H).shape
  refine CC.of (N := 8) Try.func62 rfl rfl rfl ?_
  refine WC.seq ?_
  refine WC.region ?_
  refine l_rd rfl rfl (x_assign ev_c) ?_
  refine WL.nil ?_
  refine WC.seq ?_
  refine WC.seq ?_
  refine WC.region ?_
  refine l_rd rfl rfl (x_move (by conv => lhs; whnf)) ?_
  refine l_rdD rfl rfl (x_eqlSN Try.underlying31 rfl) (fun h4 => ?_) (fun h4 => ?_)
  ·
    refine WL.nil ?_
    refine WC.cond1 rfl ?_
    refine WC.seq ?_
    refine WC.region ?_
    refine l_rd rfl rfl (x_assign ev_c) ?_
    refine WL.nil ?_
    refine WC.ret ?_
    refine atRet ?_
    exact RetM.one rfl (by (conv => lhs; whnf); try rfl) (by subst h4; obtain rfl := (hr _ [] H).none; exact Hd.nil H 86 4)
  ·
    refine WL.nil ?_
    refine WC.cond0 rfl ?_
    refine WC.skip ?_
    refine WC.seq ?_
    refine WC.region ?_
    refine l_st rfl (s_build0 Try.underlying31 ty86 H fun b5 w H => ?_)
    refine l_rd rfl rfl (x_move (by conv => lhs; whnf)) ?_
    refine l_st rfl (s_append Try.underlying31 ty86 rfl (by decide) (by decide) rfl 0 rfl rfl rfl (hr _ [_] H) (prC_one _) (by omega) H fun v7 w H => ?_)
    obtain ⟨a7, c7, rfl⟩ := (H.sl 0 rfl).shape
    refine l_rd rfl rfl (x_assign (by conv => lhs; whnf)) ?_
    refine WL.nil ?_
    refine WC.ret ?_
    refine atRet ?_
    exact RetM.one rfl (by (conv => lhs; whnf); try rfl) (by rw [Nat.zero_add] at H ⊢; exact H)

theorem c37 {s : Sy} {L : List Hp} {e : Ed} {xs : List Pr} (w : World) (H : Hd s w L) (hr : ∀ w (A : List Hp), Hd s w (A ++ L) → RdS w e.pv 4 prC xs) (hb : xs.length ≤ 1000) : CC Try.prog 37 [.agg (edC e).toArray].toArray w (fun r w' => ∃ pv, r = .agg (edC { e with pv := pv }).toArray ∧ Hd s w' (Sl pv 86 4 xs.length (xs.flatMap prC) :: L)) := by
  refine CC.of (N := 8) Try.func37 rfl rfl rfl ?_
  refine WC.seq ?_
  refine WC.region ?_
  refine l_st rfl (s_box (by conv => lhs; whnf) H fun b1 w H => ?_)
  refine l_st rfl (s_alloc ty33 H fun b2 w H => ?_)
  refine WL.nil ?_
  refine WC.seq ?_
  refine WC.region ?_
  refine l_rd rfl rfl (x_fieldAddr Try.underlying33 rfl rfl ty31 (by decide) rfl) ?_
  refine l_rd rfl rfl (x_load Try.underlying31 rfl rfl (H.cellL 1 rfl rfl)) ?_
  refine l_st rfl (s_callL cal68 (c68 _ H (fun w A h => hr w (A ++ [_, _]) (by rw [List.append_assoc]; exact h)) hb) ?_)
  rintro pv w H
  obtain ⟨a2, c2, rfl⟩ := (H.sl 0 rfl).shape
  refine l_rd rfl rfl (x_fieldAddr Try.underlying33 rfl rfl ty31 (by decide) rfl) ?_
  refine l_no (s_st 2 rfl ty31 rfl (by conv => lhs; whnf) rfl rfl H fun w H => ?_)
  refine WL.nil ?_
  refine WC.seq ?_
  refine WC.region ?_
  refine l_rd rfl rfl (x_loadF (vs := [_, _, _, _, _]) Try.underlying33 rfl ty33 rfl rfl (H.cellsL 2 rfl rfl)) ?_
  refine l_no (s_stA 1 rfl ty33 rfl (by conv => lhs; whnf) rfl rfl rfl H fun w H => ?_)
  refine WL.nil ?_
  refine WC.ret ?_
  refine atRet ?_
  exact RetM.cell1A (vs := [_, _, _, _, _]) rfl (by (conv => lhs; whnf); try rfl) Try.underlying33 rfl ty33 rfl (H.cellsL 1 rfl rfl) (⟨_, rfl, Hd.dropAt [_] (Hd.dropAt [_] H)⟩)

theorem c34 {s : Sy} {L : List Hp} {e : Ed} {xs : List Pr} (w : World) (H : Hd s w L) (hr : ∀ w (A : List Hp), Hd s w (A ++ L) → RdS w e.pv 4 prC xs) (hb : xs.length ≤ 1000) : CC Try.prog 34 [.agg (edC e).toArray].toArray w (fun r w' => ∃ pv, r = .agg (edC { e with pv := pv }).toArray ∧ Hd s w' (Sl pv 86 4 xs.length (xs.flatMap prC) :: L)) := by
  refine CC.of (N := 8) Try.func34 rfl rfl rfl ?_
  refine WC.seq ?_
  refine WC.region ?_
  refine l_st rfl (s_box (by conv => lhs; whnf) H fun b1 w H => ?_)
  refine l_st rfl (s_alloc ty33 H fun b2 w H => ?_)
  refine WL.nil ?_
  refine WC.seq ?_
  refine WC.region ?_
  refine l_rd rfl rfl (x_fieldAddr Try.underlying33 rfl rfl ty31 (by decide) rfl) ?_
  refine l_rd rfl rfl (x_load Try.underlying31 rfl rfl (H.cellL 1 rfl rfl)) ?_
  refine l_st rfl (s_callL cal62 (c62 _ H (fun w A h => hr w (A ++ [_, _]) (by rw [List.append_assoc]; exact h)) hb) ?_)
  rintro pv w H
  obtain ⟨a2, c2, rfl⟩ := (H.sl 0 rfl).shape
  refine l_rd rfl rfl (x_fieldAddr Try.underlying33 rfl rfl ty31 (by decide) rfl) ?_
  refine l_no (s_st 2 rfl ty31 rfl (by conv => lhs; whnf) rfl rfl H fun w H => ?_)
  refine WL.nil ?_
  refine WC.seq ?_
  refine WC.region ?_
  refine l_rd rfl rfl (x_loadF (vs := [_, _, _, _, _]) Try.underlying33 rfl ty33 rfl rfl (H.cellsL 2 rfl rfl)) ?_
  refine l_no (s_stA 1 rfl ty33 rfl (by conv => lhs; whnf) rfl rfl rfl H fun w H => ?_)
  refine WL.nil ?_
  refine WC.ret ?_
  refine atRet ?_
  exact RetM.cell1A (vs := [_, _, _, _, _]) rfl (by (conv => lhs; whnf); try rfl) Try.underlying33 rfl ty33 rfl (H.cellsL 1 rfl rfl) (⟨_, rfl, Hd.dropAt [_] (Hd.dropAt [_] H)⟩)

theorem c13 {s : Sy} {L : List Hp} {e : Ed} {xs : List Pr} (w : World) (H : Hd s w L) (hr : ∀ w (A : List Hp), Hd s w (A ++ L) → RdS w e.pv 4 prC xs) (hb : xs.length ≤ 1000) : CC Try.prog 13 [.agg (edC e).toArray].toArray w (fun r w' => ∃ a c, r = .agg (edC { e with pv := .slice a xs.length c }).toArray ∧ Hd s w' (Sl (.slice a (xs.length + 12) c) 86 4 (xs.length + 12) ((xs ++ mksK 12).flatMap prC) :: L)) := by
  refine CC.of (N := 8) Try.func13 rfl rfl rfl ?_
  refine WC.seq ?_
  refine WC.region ?_
  refine l_st rfl (s_box (by conv => lhs; whnf) H fun b1 w H => ?_)
  refine l_st rfl (s_alloc ty33 H fun b2 w H => ?_)
  refine WL.nil ?_
  refine WC.seq ?_
  refine WC.region ?_
  refine l_rd rfl rfl (x_fieldAddr Try.underlying33 rfl rfl ty31 (by decide) rfl) ?_
  refine l_rd rfl rfl (x_load Try.underlying31 rfl rfl (H.cellL 1 rfl rfl)) ?_
  refine l_st rfl (s_callL cal29 (c29 _ H (fun w A h => hr w (A ++ [_, _]) (by rw [List.append_assoc]; exact h)) hb) ?_)
  rintro _ w ⟨a2, c2, rfl, H⟩
  refine l_rd rfl rfl (x_fieldAddr Try.underlying33 rfl rfl ty31 (by decide) rfl) ?_
  refine l_no (s_st 2 rfl ty31 rfl (by conv => lhs; whnf) rfl rfl H fun w H => ?_)
  refine WL.nil ?_
  refine WC.seq ?_
  refine WC.region ?_
  refine l_rd rfl rfl (x_loadF (vs := [_, _, _, _, _]) Try.underlying33 rfl ty33 rfl rfl (H.cellsL 2 rfl rfl)) ?_
  refine l_no (s_stA 1 rfl ty33 rfl (by conv => lhs; whnf) rfl rfl rfl H fun w H => ?_)
  refine WL.nil ?_
  refine WC.ret ?_
  refine atRet ?_
  exact RetM.cell1A (vs := [_, _, _, _, _]) rfl (by (conv => lhs; whnf); try rfl) Try.underlying33 rfl ty33 rfl (H.cellsL 1 rfl rfl) (⟨a2, c2, rfl, Hd.dropAt [_] (Hd.dropAt [_] H)⟩)

theorem c39 {s : Sy} {L : List Hp} {a : Option Addr} {n c m : Nat} {cs : List Value} (w : World) (hm : m = min c (n + 12)) (hn : n ≤ 1000) (H : Hd s w (Sl (.slice a m c) 86 4 m cs :: L)) : CC Try.prog 39 [.slice a n c].toArray w (fun r w' => Hd s w' L) := by
  refine CC.of (N := 23) Try.func39 rfl rfl rfl ?_
  refine WC.seq ?_
  refine WC.region ?_
  refine l_rd rfl rfl (x_move (by conv => lhs; whnf)) ?_
  refine l_rd rfl rfl (x_move (by conv => lhs; whnf)) ?_
  refine l_rd rfl rfl (x_cap Try.underlying31 rfl rfl) ?_
  refine l_rd rfl rfl (x_move (by conv => lhs; whnf)) ?_
  refine l_rd rfl rfl (x_lenSlice Try.underlying31 rfl rfl) ?_
  refine l_rd rfl rfl (x_add rfl rfl (by omega) (by omega)) ?_
  refine l_rd rfl rfl (x_min rfl rfl) ?_
  refine l_rd rfl rfl (x_sliceTo Try.underlying31 ty86 rfl rfl (by omega) (by omega)) ?_
  refine l_rd rfl rfl (x_assign (by conv => lhs; whnf)) ?_
  refine WL.nil ?_
  refine WC.seq ?_
  refine WC.region ?_
  refine l_rd rfl rfl (x_assign ev_c) ?_
  refine WL.nil ?_
  refine WC.block ?_
  refine WC.loop (fun ρ ds w => ∃ (k : Nat) (cs : List Value), k ≤ m ∧ ρ 3 = I k ∧ ρ 2 = .slice a m c ∧ ds = [] ∧ Hd s w (Sl (.slice a m c) 86 4 m cs :: L)) (fun ρ w => m - (match ρ 3 with | .int _ k => k.toNat | _ => 0)) (⟨0, cs, Nat.zero_le _, rfl, by show Value.slice a (Int.toNat (if ((n:Int) + 12) < (c:Int) then ((n:Int) + 12) else (c : Int))) c = _; congr 1; split <;> omega, rfl, H⟩) ?_
  repeat clear H
  rintro ρ ds w ⟨k, cs1, hk, h3, h2, rfl, H⟩
  refine WC.seq ?_
  refine WC.seq ?_
  refine WC.region ?_
  refine l_rd rfl rfl (x_move h3) ?_
  refine l_rd rfl rfl (x_move h2) ?_
  refine l_rd rfl rfl (x_lenSlice Try.underlying31 rfl rfl) ?_
  refine l_rdD rfl rfl (x_lss rfl rfl) (fun h15 => ?_) (fun h15 => ?_)
  ·
    refine WL.nil ?_
    refine WC.cond1 rfl ?_
    refine WC.skip ?_
    refine WC.seq ?_
    refine WC.block ?_
    obtain ⟨b1, o1, c1, hv1, _⟩ := (H.sl 0 rfl).at_ (show k < m by omega)
    cases hv1
    refine WC.region ?_
    refine l_rd rfl rfl (x_move h2) ?_
    refine l_rd rfl rfl (x_move h3) ?_
    refine l_rd rfl rfl (x_move h3) ?_
    refine l_st rfl (s_callL cal52 (c52 _ (by omega) (by omega)) ?_)
    rintro _ w ⟨rfl, e1⟩
    have H := H.ext e1
    refine l_rd rfl rfl (x_indexAddr Try.underlying31 ty86 rfl rfl (by omega) (by omega)) ?_
    refine l_no (s_storeRow (b := b1) (o := o1) (c := c) (k := k) 0 rfl rfl (show k < m by omega) ty86 rfl rfl rfl (fun u hu => prC_one [mkP 2 k] u (by simpa using hu)) H (fun w H => ?_))
    refine WL.nil ?_
    refine WC.region ?_
    refine l_rd rfl rfl (x_move h3) ?_
    refine l_rd rfl rfl (x_add rfl rfl (by omega) (by omega)) ?_
    refine l_rd rfl rfl (x_assign (by conv => lhs; whnf)) ?_
    refine WL.nil ?_
    refine WC.again (⟨k + 1, _, by omega, rfl, h2, rfl, H⟩) (by show _ - _ < _ - _; rw [h3]; show m - ((k : Int) + 1).toNat < m - (k : Int).toNat; omega)
  ·
    refine WL.nil ?_
    refine WC.cond0 rfl ?_
    refine WC.exit ?_
    refine atEnd ?_
    exact RetM.none' rfl (H.drop)

theorem c17 {s : Sy} {L : List Hp} {e : Ed} {a : Option Addr} {n c m : Nat} {cs : List Value} (w : World) (he : e.pv = .slice a n c) (hm : m = min c (n + 12)) (hn : n ≤ 1000) (H : Hd s w (Sl (.slice a m c) 86 4 m cs :: L)) : CC Try.prog 17 [.agg (edC e).toArray].toArray w (fun r w' => Hd s w' L) := by
  refine CC.of (N := 5) Try.func17 rfl rfl rfl ?_
  refine WC.seq ?_
  refine WC.region ?_
  refine l_st rfl (s_box (by conv => lhs; whnf) H fun b1 w H => ?_)
  refine WL.nil ?_
  refine WC.region ?_
  refine l_rd rfl rfl (x_fieldAddr Try.underlying33 rfl rfl ty31 (by decide) rfl) ?_
  refine l_rd rfl rfl (x_load Try.underlying31 rfl rfl (H.cellL 0 rfl rfl)) ?_
  refine l_st rfl (s_callL cal39 (he ▸ c39 _ hm hn (H.swp)) ?_)
  rintro _ w H
  refine WL.nil ?_
  refine atEnd ?_
  exact RetM.none' rfl (H.drop)

theorem c38 {a : Option Addr} {c : Nat} {v2 : Value} {xs : List Pr} (w : World) (hO : RdS w (.slice a (xs.length + 12) c) 4 prC (xs ++ mksK 12)) (hcap : xs.length + 12 ≤ c) (hl : RdS w v2 4 prC xs) (hb : xs.length ≤ 1000) : CC Try.prog 38 [.slice a xs.length c, v2].toArray w (fun r w' => r = .bool true ∧ Ext w w') := by
  obtain ⟨w0, e0⟩ : ∃ w0, w0 = w := ⟨w, rfl⟩
  subst e0
  have H := Hd.start w0
  obtain ⟨a2, c2, rfl⟩ := hl.shape
  have hle := hl.le
  refine CC.of (N := 58) Try.func38 rfl rfl rfl ?_
  refine WC.seq ?_
  refine WC.region ?_
  refine l_rd rfl rfl (x_assign ev_c) ?_
  refine WL.nil ?_
  refine WC.seq ?_
  refine WC.seq ?_
  refine WC.region ?_
  refine l_rd rfl rfl (x_move (by conv => lhs; whnf)) ?_
  refine l_rd rfl rfl (x_lenSlice Try.underlying31 rfl rfl) ?_
  refine l_rd rfl rfl (x_move (by conv => lhs; whnf)) ?_
  refine l_rd rfl rfl (x_lenSlice Try.underlying31 rfl rfl) ?_
  refine l_rdD rfl rfl (x_neq rfl rfl) (fun h11 => ?_) (fun h11 => ?_)
  ·
    exact absurd rfl h11
  ·
    refine WL.nil ?_
    refine WC.cond0 rfl ?_
    refine WC.skip ?_
    refine WC.seq ?_
    refine WC.region ?_
    refine l_rd rfl rfl (x_move (by conv => lhs; whnf)) ?_
    refine l_rd rfl rfl (x_move (by conv => lhs; whnf)) ?_
    refine l_rd rfl rfl (x_lenSlice Try.underlying31 rfl rfl) ?_
    refine l_rd rfl rfl (x_add rfl rfl (by omega) (by omega)) ?_
    refine l_rd rfl rfl (x_sliceTo Try.underlying31 ty86 rfl rfl (by omega) (by omega)) ?_
    refine l_rd rfl rfl (x_assign (by conv => lhs; whnf)) ?_
    refine WL.nil ?_
    refine WC.seq ?_
    refine WC.seq ?_
    refine WC.region ?_
    refine l_rd rfl rfl (x_assign ev_c) ?_
    refine WL.nil ?_
    refine WC.block ?_
    refine WC.loop (fun ρ ds w => ∃ k : Nat, k ≤ xs.length + 12 ∧ ρ 6 = I k ∧ ρ 5 = .slice a (xs.length + 12) c ∧ ρ 1 = .slice a2 xs.length c2 ∧ ds = [] ∧ Hd (sy w0) w [fr w0]) (fun ρ w => xs.length + 12 - (match ρ 6 with | .int _ k => k.toNat | _ => 0)) (⟨0, Nat.zero_le _, rfl, rfl, rfl, rfl, H⟩) ?_
    repeat clear H
    rintro ρ ds w ⟨k, hk, h6, h5, h1, rfl, H⟩
    refine WC.seq ?_
    refine WC.seq ?_
    refine WC.region ?_
    refine l_rd rfl rfl (x_move h6) ?_
    refine l_rd rfl rfl (x_move h5) ?_
    refine l_rd rfl rfl (x_lenSlice Try.underlying31 rfl rfl) ?_
    refine l_rdD rfl rfl (x_lss rfl rfl) (fun h20 => ?_) (fun h20 => ?_)
    ·
      refine WL.nil ?_
      refine WC.cond1 rfl ?_
      refine WC.skip ?_
      refine WC.seq ?_
      refine WC.block ?_
      refine WC.seq ?_
      refine WC.draw mixed [30] [[], [], [1], [0, 1, 2], [0, 1, 2, 3], [0, 1, 2, 3, 4], [0, 1, 2, 3, 4], [0, 1, 2, 3, 4, 5, 6], [0, 1, 2, 3, 4, 5, 6, 7], [0, 1, 2, 3, 4], [0, 1, 2, 3, 4], [0, 1, 2, 3, 4, 9, 10], [0, 1, 2, 3, 4, 9, 10, 11], [0, 1, 2, 3, 4, 5, 6, 7, 8, 9, 10, 11, 12], [0, 1, 2, 3, 4, 5, 6, 7, 8, 9, 10, 11, 12, 13], [0, 1, 2, 3, 4, 5, 6, 7, 8, 9, 10, 11, 12, 13, 14], [0, 1, 2, 3, 4, 5, 6, 7, 8, 9, 10, 11, 12, 13, 14, 15], [0, 1, 2, 3, 4, 5, 6, 7, 8, 9, 10, 11, 12, 13, 14, 15, 16], [0, 1, 2, 3, 4, 5, 6, 7, 8, 9, 10, 11, 12, 13, 14, 15, 16], [0, 1, 2, 3, 4, 5, 6, 7, 8, 9, 10, 11, 12, 13, 14, 15, 16, 18], [0, 1, 2, 3, 4, 5, 6, 7, 8, 9, 10, 11, 12, 13, 14, 15, 16, 17, 18, 19], [0, 1, 2, 3, 4, 5, 6, 7, 8, 9, 10, 11, 12, 13, 14, 15, 16, 17, 18, 19, 20], [0, 1, 2, 3, 4, 5, 6, 7, 8, 9, 10, 11, 12, 13, 14, 15, 16, 17, 18, 19, 20, 21], [0, 1, 2, 3, 4, 5, 6, 7, 8, 9, 10, 11, 12, 13, 14, 15, 16, 17, 18, 19, 20, 21], [0, 1, 2, 3, 4, 5, 6, 7, 8, 9, 10, 11, 12, 13, 14, 15, 16, 17, 18, 19, 20, 21, 22, 23], [0, 1, 2, 3, 4, 5, 6, 7, 8, 9, 10, 11, 12, 13, 14, 15, 16, 17, 18, 19, 20, 21, 22, 23, 24], [0, 1, 2, 3, 4, 5, 6, 7, 8, 9, 10, 11, 12, 13, 14, 15, 16, 17, 18, 19, 20, 21], [0, 1, 2, 3, 4, 5, 6, 7, 8, 9, 10, 11, 12, 13, 14, 15, 16, 17, 18, 19, 20, 21], [0, 1, 2, 3, 4, 5, 6, 7, 8, 9, 10, 11, 12, 13, 14, 15, 16, 17, 18, 19, 20, 21, 27], [0, 1, 2, 3, 4, 5, 6, 7, 8, 9, 10, 11, 12, 13, 14, 15, 16, 17, 18, 19, 20, 21, 26, 27, 28], [0, 1, 2, 3, 4, 5, 6, 7, 8, 9, 10, 11, 12, 13, 14, 15, 16, 17, 18, 19, 20, 21, 26, 27, 28, 29], [0, 1, 2, 3, 4, 5, 6, 7, 8, 9, 10, 11, 12, 13, 14, 15, 16, 17, 18, 19, 20, 21, 22, 23, 24, 25, 26, 27, 28, 29, 30], [0, 1, 2, 3, 4, 5, 6, 7, 8, 9, 10, 11, 12, 13, 14, 15, 16, 17, 18, 19, 20, 21, 22, 23, 24, 25, 26, 27, 28, 29, 30, 31], [0, 1, 2, 3, 4, 5, 6, 7, 8, 9, 10, 11, 12, 13, 14, 15, 16, 17, 18, 19, 20, 21, 22, 23, 24, 25, 26, 27, 28, 29, 30, 31, 32], [0, 1, 2, 3, 4, 5, 6, 7, 8, 9, 10, 11, 12, 13, 14, 15, 16, 17, 18, 19, 20, 21, 22, 23, 24, 25, 26, 27, 28, 29, 30, 31, 32, 33]] [0, 1, 2, 3, 4, 5, 6, 7, 8, 9, 10, 11, 12, 13, 14, 15, 16, 17, 18, 19, 20, 21, 22, 23, 24, 25, 26, 27, 28, 29, 30, 31, 32, 33, 34] (by kernel_rfl) ?_
      have H := H.drew
      refine k_rd rfl rfl (RS.of rfl rfl (x_move h6)) ?_
      refine k_rd rfl rfl (RS.of rfl rfl (x_move h1)) ?_
      refine k_rd rfl rfl (RS.of rfl rfl (x_lenSlice Try.underlying31 rfl rfl)) ?_
      refine k_rdD rfl rfl rfl rfl (x_lss rfl rfl) (fun h26 => ?_) (fun h26 => ?_)
      ·
        obtain ⟨y, hy⟩ := lt_get (show k < xs.length by omega)
        obtain ⟨b1, o1, rfl, hc1⟩ := hO.el prC_len (show (xs ++ mksK 12)[k]? = some y by rw [List.getElem?_append_left (by omega)]; exact hy)
        obtain ⟨b2, o2, rfl, hc2⟩ := hl.el prC_len hy
        refine k_rd rfl rfl (RS.of rfl rfl (x_move (by conv => lhs; whnf))) ?_
        refine k_rd rfl rfl (RS.yes rfl (wantY rfl rfl rfl) (x_move h5)) ?_
        refine k_rd rfl rfl (RS.yes rfl (wantY rfl rfl rfl) (x_move h6)) ?_
        refine k_rd rfl rfl (RS.yes rfl (wantY rfl rfl rfl) (x_indexAddr Try.underlying31 ty86 rfl rfl (by omega) (by omega))) ?_
        refine k_rd rfl rfl (RS.yes rfl (wantY rfl rfl rfl) (x_loadF (vs := [_, _, _, _]) Try.underlying86 rfl ty86 rfl rfl (sub_row 0 (fun j u hj => (H.old 0 rfl).cell (hc1 j u hj)) rfl))) ?_
        refine k_rd rfl rfl (RS.yes rfl (wantY rfl rfl rfl) (x_move h1)) ?_
        refine k_rd rfl rfl (RS.yes rfl (wantY rfl rfl rfl) (x_move h6)) ?_
        refine k_rd rfl rfl (RS.yes rfl (wantY rfl rfl rfl) (x_indexAddr Try.underlying31 ty86 rfl rfl (by omega) (by omega))) ?_
        refine k_rd rfl rfl (RS.yes rfl (wantY rfl rfl rfl) (x_loadF (vs := [_, _, _, _]) Try.underlying86 rfl ty86 rfl rfl (sub_row 0 (fun j u hj => (H.old 0 rfl).cell (hc2 j u hj)) rfl))) ?_
        refine k_rdD rfl rfl (wantY rfl rfl rfl) rfl (x_eqlA (by kernel_rfl) rfl rfl eq86) (fun h36 => ?_) (fun h36 => ?_)
        ·
          refine k_rd rfl rfl (RS.yes rfl (wantY rfl rfl rfl) (x_not rfl)) ?_
          refine k_rd rfl rfl (RS.of rfl rfl (x_pick1 rfl (by conv => lhs; whnf))) ?_
          refine k_rd rfl rfl (RS.of rfl rfl (x_move (by conv => lhs; whnf))) ?_
          refine k_rd rfl rfl (RS.yes rfl (wantY rfl rfl rfl) (x_move h6)) ?_
          refine k_rd rfl rfl (RS.yes rfl (wantY rfl rfl rfl) (x_move h1)) ?_
          refine k_rd rfl rfl (RS.yes rfl (wantY rfl rfl rfl) (x_lenSlice Try.underlying31 rfl rfl)) ?_
          refine k_rdD rfl rfl (wantY rfl rfl rfl) rfl (x_geq rfl rfl) (fun h43 => ?_) (fun h43 => ?_)
          ·
            refine k_rd rfl rfl (RS.yes rfl (wantY rfl rfl rfl) (x_move (by conv => lhs; whnf))) ?_
            refine k_rd rfl rfl (RS.yes rfl (wantY rfl rfl rfl) (x_move h5)) ?_
            refine k_rd rfl rfl (RS.yes rfl (wantY rfl rfl rfl) (x_move h6)) ?_
            refine k_rd rfl rfl (RS.yes rfl (wantY rfl rfl rfl) (x_indexAddr Try.underlying31 ty86 rfl rfl (by omega) (by omega))) ?_
            refine k_rd rfl rfl (RS.yes rfl (wantY rfl rfl rfl) (x_loadF (vs := [_, _, _, _]) Try.underlying86 rfl ty86 rfl rfl (sub_row 0 (fun j u hj => (H.old 0 rfl).cell (hc1 j u hj)) rfl))) ?_
            refine k_rd rfl rfl (RS.yes rfl (wantY rfl rfl rfl) (x_move h6)) ?_
            refine k_rd rfl rfl (RS.yes rfl (wantY rfl rfl rfl) (x_move h1)) ?_
            refine k_rd rfl rfl (RS.yes rfl (wantY rfl rfl rfl) (x_lenSlice Try.underlying31 rfl rfl)) ?_
            refine k_rd rfl rfl (RS.yes rfl (wantY rfl rfl rfl) (x_sub rfl rfl (by omega) (by omega))) ?_
            refine k_st rfl rfl (wantY rfl rfl rfl) (s_callL cal52 (c52 _ (by omega) (by omega)) ?_)
            rintro _ w ⟨rfl, e1⟩
            have H := H.ext e1
            refine ⟨⟨trivial, ⟨trivial, ⟨trivial, ⟨trivial, ⟨RS.yes rfl (wantY rfl rfl rfl) (x_loadF (vs := [_, _, _, _]) Try.underlying86 rfl ty86 rfl rfl (sub_row 0 (fun j u hj => (H.old 0 rfl).cell (hc1 j u hj)) rfl)), ⟨RS.yes rfl (wantY rfl rfl rfl) (x_indexAddr Try.underlying31 ty86 rfl rfl (by omega) (by omega)), ⟨RS.yes rfl (wantY rfl rfl rfl) (x_move h6), ⟨RS.yes rfl (wantY rfl rfl rfl) (x_move h5), ⟨trivial, ⟨trivial, ⟨trivial, ⟨trivial, ⟨trivial, ⟨trivial, ⟨trivial, ⟨trivial, ⟨trivial, ⟨trivial, ⟨trivial, ⟨trivial, ⟨trivial, ⟨trivial, ⟨trivial, ⟨trivial, ⟨trivial, ⟨trivial, ⟨trivial, ⟨trivial, ⟨trivial, ⟨trivial, trivial⟩⟩⟩⟩⟩⟩⟩⟩⟩⟩⟩⟩⟩⟩⟩⟩⟩⟩⟩⟩⟩⟩⟩⟩⟩⟩⟩⟩⟩⟩, ?_⟩
            refine k_rdD rfl rfl (wantY rfl rfl rfl) rfl (x_eqlA (by kernel_rfl) rfl rfl eq86) (fun h54 => ?_) (fun h54 => ?_)
            ·
              refine k_rd rfl rfl (RS.yes rfl (wantY rfl rfl rfl) (x_not rfl)) ?_
              refine k_rd rfl rfl (RS.yes rfl (wantY rfl rfl rfl) (x_pick1 rfl (by conv => lhs; whnf))) ?_
              refine k_rd rfl rfl (RS.of rfl rfl (x_pick0 rfl (by conv => lhs; whnf))) ?_
              show _
              refine WC.cond0 rfl ?_
              refine WC.skip ?_
              refine WC.region ?_
              refine l_rd rfl rfl (x_move h6) ?_
              refine l_rd rfl rfl (x_add rfl rfl (by omega) (by omega)) ?_
              refine l_rd rfl rfl (x_assign (by conv => lhs; whnf)) ?_
              refine WL.nil ?_
              refine WC.again (⟨k + 1, by omega, rfl, h5, h1, rfl, H⟩) (by show _ - _ < _ - _; rw [h6]; show xs.length + 12 - ((k : Int) + 1).toNat < xs.length + 12 - (k : Int).toNat; omega)
            ·
              exact absurd (by congr 1; omega) h54
          ·
            refine k_rd rfl rfl (RS.yes rfl (wantY rfl rfl rfl) (x_move (by conv => lhs; whnf))) ?_
            refine k_rd rfl rfl (RS.no rfl (wantN rfl rfl rfl)) ?_
            refine k_rd rfl rfl (RS.no rfl (wantN rfl rfl rfl)) ?_
            refine k_rd rfl rfl (RS.no rfl (wantN rfl rfl rfl)) ?_
            refine k_rd rfl rfl (RS.no rfl (wantN rfl rfl rfl)) ?_
            refine k_rd rfl rfl (RS.no rfl (wantN rfl rfl rfl)) ?_
            refine k_rd rfl rfl (RS.no rfl (wantN rfl rfl rfl)) ?_
            refine k_rd rfl rfl (RS.no rfl (wantN rfl rfl rfl)) ?_
            refine k_rd rfl rfl (RS.no rfl (wantN rfl rfl rfl)) ?_
            refine k_un rfl rfl (wantN rfl rfl rfl) (⟨trivial, ⟨trivial, ⟨trivial, ⟨trivial, ⟨RS.no rfl (wantN rfl rfl rfl), ⟨RS.no rfl (wantN rfl rfl rfl), ⟨RS.no rfl (wantN rfl rfl rfl), ⟨RS.no rfl (wantN rfl rfl rfl), ⟨trivial, ⟨trivial, ⟨trivial, ⟨trivial, ⟨trivial, ⟨trivial, ⟨trivial, ⟨trivial, ⟨trivial, ⟨trivial, ⟨trivial, ⟨trivial, ⟨trivial, ⟨trivial, ⟨trivial, ⟨trivial, ⟨trivial, ⟨trivial, ⟨trivial, ⟨trivial, ⟨trivial, ⟨trivial, trivial⟩⟩⟩⟩⟩⟩⟩⟩⟩⟩⟩⟩⟩⟩⟩⟩⟩⟩⟩⟩⟩⟩⟩⟩⟩⟩⟩⟩⟩⟩) ?_
            refine k_rd rfl rfl (RS.no rfl (wantN rfl rfl rfl)) ?_
            refine k_rd rfl rfl (RS.no rfl (wantN rfl rfl rfl)) ?_
            refine k_rd rfl rfl (RS.yes rfl (wantY rfl rfl rfl) (x_pick0 rfl ev_c)) ?_
            refine k_rd rfl rfl (RS.of rfl rfl (x_pick0 rfl (by conv => lhs; whnf))) ?_
            show _
            refine WC.cond0 rfl ?_
            refine WC.skip ?_
            refine WC.region ?_
            refine l_rd rfl rfl (x_move h6) ?_
            refine l_rd rfl rfl (x_add rfl rfl (by omega) (by omega)) ?_
            refine l_rd rfl rfl (x_assign (by conv => lhs; whnf)) ?_
            refine WL.nil ?_
            refine WC.again (⟨k + 1, by omega, rfl, h5, h1, rfl, H⟩) (by show _ - _ < _ - _; rw [h6]; show xs.length + 12 - ((k : Int) + 1).toNat < xs.length + 12 - (k : Int).toNat; omega)
        ·
          exact absurd rfl h36
      ·
        obtain ⟨b1, o1, rfl, hc1⟩ := hO.el prC_len (show (xs ++ mksK 12)[k]? = some (mkP 1 ((k - xs.length : Nat) : Int)) by rw [List.getElem?_append_right (by omega)]; exact mksK_at (by omega))
        refine k_rd rfl rfl (RS.of rfl rfl (x_move (by conv => lhs; whnf))) ?_
        refine k_rd rfl rfl (RS.no rfl (wantN rfl rfl rfl)) ?_
        refine k_rd rfl rfl (RS.no rfl (wantN rfl rfl rfl)) ?_
        refine k_rd rfl rfl (RS.no rfl (wantN rfl rfl rfl)) ?_
        refine k_rd rfl rfl (RS.no rfl (wantN rfl rfl rfl)) ?_
        refine k_rd rfl rfl (RS.no rfl (wantN rfl rfl rfl)) ?_
        refine k_rd rfl rfl (RS.no rfl (wantN rfl rfl rfl)) ?_
        refine k_rd rfl rfl (RS.no rfl (wantN rfl rfl rfl)) ?_
        refine k_rd rfl rfl (RS.no rfl (wantN rfl rfl rfl)) ?_
        refine k_rd rfl rfl (RS.no rfl (wantN rfl rfl rfl)) ?_
        refine k_rd rfl rfl (RS.no rfl (wantN rfl rfl rfl)) ?_
        refine k_rd rfl rfl (RS.of rfl rfl (x_pick0 rfl ev_c)) ?_
        refine k_rd rfl rfl (RS.of rfl rfl (x_move (by conv => lhs; whnf))) ?_
        refine k_rd rfl rfl (RS.yes rfl (wantY rfl rfl rfl) (x_move h6)) ?_
        refine k_rd rfl rfl (RS.yes rfl (wantY rfl rfl rfl) (x_move h1)) ?_
        refine k_rd rfl rfl (RS.yes rfl (wantY rfl rfl rfl) (x_lenSlice Try.underlying31 rfl rfl)) ?_
        refine k_rdD rfl rfl (wantY rfl rfl rfl) rfl (x_geq rfl rfl) (fun h43 => ?_) (fun h43 => ?_)
        ·
          refine k_rd rfl rfl (RS.yes rfl (wantY rfl rfl rfl) (x_move (by conv => lhs; whnf))) ?_
          refine k_rd rfl rfl (RS.yes rfl (wantY rfl rfl rfl) (x_move h5)) ?_
          refine k_rd rfl rfl (RS.yes rfl (wantY rfl rfl rfl) (x_move h6)) ?_
          refine k_rd rfl rfl (RS.yes rfl (wantY rfl rfl rfl) (x_indexAddr Try.underlying31 ty86 rfl rfl (by omega) (by omega))) ?_
          refine k_rd rfl rfl (RS.yes rfl (wantY rfl rfl rfl) (x_loadF (vs := [_, _, _, _]) Try.underlying86 rfl ty86 rfl rfl (sub_row 0 (fun j u hj => (H.old 0 rfl).cell (hc1 j u hj)) rfl))) ?_
          refine k_rd rfl rfl (RS.yes rfl (wantY rfl rfl rfl) (x_move h6)) ?_
          refine k_rd rfl rfl (RS.yes rfl (wantY rfl rfl rfl) (x_move h1)) ?_
          refine k_rd rfl rfl (RS.yes rfl (wantY rfl rfl rfl) (x_lenSlice Try.underlying31 rfl rfl)) ?_
          refine k_rd rfl rfl (RS.yes rfl (wantY rfl rfl rfl) (x_sub rfl rfl (by omega) (by omega))) ?_
          refine k_st rfl rfl (wantY rfl rfl rfl) (s_callL cal52 (c52 _ (by omega) (by omega)) ?_)
          rintro _ w ⟨rfl, e1⟩
          have H := H.ext e1
          refine ⟨⟨trivial, ⟨trivial, ⟨trivial, ⟨trivial, ⟨RS.yes rfl (wantY rfl rfl rfl) (x_loadF (vs := [_, _, _, _]) Try.underlying86 rfl ty86 rfl rfl (sub_row 0 (fun j u hj => (H.old 0 rfl).cell (hc1 j u hj)) rfl)), ⟨RS.yes rfl (wantY rfl rfl rfl) (x_indexAddr Try.underlying31 ty86 rfl rfl (by omega) (by omega)), ⟨RS.yes rfl (wantY rfl rfl rfl) (x_move h6), ⟨RS.yes rfl (wantY rfl rfl rfl) (x_move h5), ⟨trivial, ⟨trivial, ⟨trivial, ⟨trivial, ⟨trivial, ⟨trivial, ⟨trivial, ⟨trivial, ⟨trivial, ⟨trivial, ⟨trivial, ⟨trivial, ⟨trivial, ⟨trivial, ⟨trivial, ⟨trivial, ⟨trivial, ⟨trivial, ⟨trivial, ⟨trivial, ⟨trivial, ⟨trivial, trivial⟩⟩⟩⟩⟩⟩⟩⟩⟩⟩⟩⟩⟩⟩⟩⟩⟩⟩⟩⟩⟩⟩⟩⟩⟩⟩⟩⟩⟩⟩, ?_⟩
          refine k_rdD rfl rfl (wantY rfl rfl rfl) rfl (x_eqlA (by kernel_rfl) rfl rfl eq86) (fun h54 => ?_) (fun h54 => ?_)
          ·
            refine k_rd rfl rfl (RS.yes rfl (wantY rfl rfl rfl) (x_not rfl)) ?_
            refine k_rd rfl rfl (RS.yes rfl (wantY rfl rfl rfl) (x_pick1 rfl (by conv => lhs; whnf))) ?_
            refine k_rd rfl rfl (RS.of rfl rfl (x_pick0 rfl (by conv => lhs; whnf))) ?_
            show _
            refine WC.cond0 rfl ?_
            refine WC.skip ?_
            refine WC.region ?_
            refine l_rd rfl rfl (x_move h6) ?_
            refine l_rd rfl rfl (x_add rfl rfl (by omega) (by omega)) ?_
            refine l_rd rfl rfl (x_assign (by conv => lhs; whnf)) ?_
            refine WL.nil ?_
            refine WC.again (⟨k + 1, by omega, rfl, h5, h1, rfl, H⟩) (by show _ - _ < _ - _; rw [h6]; show xs.length + 12 - ((k : Int) + 1).toNat < xs.length + 12 - (k : Int).toNat; omega)
          ·
            exact absurd (by congr 1; omega) h54
        ·
          refine k_rd rfl rfl (RS.yes rfl (wantY rfl rfl rfl) (x_move (by conv => lhs; whnf))) ?_
          refine k_rd rfl rfl (RS.no rfl (wantN rfl rfl rfl)) ?_
          refine k_rd rfl rfl (RS.no rfl (wantN rfl rfl rfl)) ?_
          refine k_rd rfl rfl (RS.no rfl (wantN rfl rfl rfl)) ?_
          refine k_rd rfl rfl (RS.no rfl (wantN rfl rfl rfl)) ?_
          refine k_rd rfl rfl (RS.no rfl (wantN rfl rfl rfl)) ?_
          refine k_rd rfl rfl (RS.no rfl (wantN rfl rfl rfl)) ?_
          refine k_rd rfl rfl (RS.no rfl (wantN rfl rfl rfl)) ?_
          refine k_rd rfl rfl (RS.no rfl (wantN rfl rfl rfl)) ?_
          refine k_un rfl rfl (wantN rfl rfl rfl) (⟨trivial, ⟨trivial, ⟨trivial, ⟨trivial, ⟨RS.no rfl (wantN rfl rfl rfl), ⟨RS.no rfl (wantN rfl rfl rfl), ⟨RS.no rfl (wantN rfl rfl rfl), ⟨RS.no rfl (wantN rfl rfl rfl), ⟨trivial, ⟨trivial, ⟨trivial, ⟨trivial, ⟨trivial, ⟨trivial, ⟨trivial, ⟨trivial, ⟨trivial, ⟨trivial, ⟨trivial, ⟨trivial, ⟨trivial, ⟨trivial, ⟨trivial, ⟨trivial, ⟨trivial, ⟨trivial, ⟨trivial, ⟨trivial, ⟨trivial, ⟨trivial, trivial⟩⟩⟩⟩⟩⟩⟩⟩⟩⟩⟩⟩⟩⟩⟩⟩⟩⟩⟩⟩⟩⟩⟩⟩⟩⟩⟩⟩⟩⟩) ?_
          refine k_rd rfl rfl (RS.no rfl (wantN rfl rfl rfl)) ?_
          refine k_rd rfl rfl (RS.no rfl (wantN rfl rfl rfl)) ?_
          refine k_rd rfl rfl (RS.yes rfl (wantY rfl rfl rfl) (x_pick0 rfl ev_c)) ?_
          refine k_rd rfl rfl (RS.of rfl rfl (x_pick0 rfl (by conv => lhs; whnf))) ?_
          show _
          refine WC.cond0 rfl ?_
          refine WC.skip ?_
          refine WC.region ?_
          refine l_rd rfl rfl (x_move h6) ?_
          refine l_rd rfl rfl (x_add rfl rfl (by omega) (by omega)) ?_
          refine l_rd rfl rfl (x_assign (by conv => lhs; whnf)) ?_
          refine WL.nil ?_
          refine WC.again (⟨k + 1, by omega, rfl, h5, h1, rfl, H⟩) (by show _ - _ < _ - _; rw [h6]; show xs.length + 12 - ((k : Int) + 1).toNat < xs.length + 12 - (k : Int).toNat; omega)
    ·
      refine WL.nil ?_
      refine WC.cond0 rfl ?_
      refine WC.exit ?_
      refine WC.seq ?_
      refine WC.region ?_
      refine l_rd rfl rfl (x_assign ev_c) ?_
      refine WL.nil ?_
      refine WC.ret ?_
      refine atRet ?_
      exact RetM.one rfl (by (conv => lhs; whnf); try rfl) (⟨rfl, H.below 0 rfl⟩)

end Go.Proofs.Ytahdodijpmkddaa
set_option linter.unusedVariables false
set_option linter.unusedSimpArgs false
namespace Go.Proofs.Ytahdodijpmkddaa
open Go Go.RowKit KE Go.Proofs
theorem cal72 : Cal Try.prog 72 := ⟨_, Try.func72, rfl, by decide⟩
theorem cal84 : Cal Try.prog 84 := ⟨_, Try.func84, rfl, by decide⟩
theorem cal91 : Cal Try.prog 91 := ⟨_, Try.func91, rfl, by decide⟩
theorem cal92 : Cal Try.prog 92 := ⟨_, Try.func92, rfl, by decide⟩

def cmpI (a b : Int) : Int := if a < b then -1 else if b < a then 1 else 0
def cmpS (a b : ByteArray) : Int := if sLt a b then -1 else if ¬ (sLt a b ∨ a = b) then 1 else 0
def orI : List Int → Int
  | [] => 0
  | x :: xs => if x ≠ 0 then x else orI xs
theorem or_drop {xs : List Int} {k : Nat} {x : Int} (h : xs[k]? = some x) : orI (xs.drop k) = if x ≠ 0 then x else orI (xs.drop (k + 1)) := by
  obtain ⟨hk, e⟩ := List.getElem?_eq_some_iff.1 h
  rw [List.drop_eq_getElem_cons hk, e]; rfl
def ahd (e f : Ed) : Prop := if e.time ≠ f.time then e.time < f.time else if e.src ≠ f.src then sLt e.src f.src else if e.dst ≠ f.dst then sLt e.dst f.dst else sLt e.lab f.lab
instance (e f : Ed) : Decidable (ahd e f) := by unfold ahd; infer_instance
def cmpE (e f : Ed) : Int := if ahd e f then -1 else if ahd f e then 1 else 0
theorem c91 {x : Int} (w : World) : CC Try.prog 91 [I x].toArray w (fun r w' => r = .bool false ∧ Ext w w') := by
  obtain ⟨w0, e0⟩ : ∃ w0, w0 = w := ⟨w, rfl⟩
  subst e0
  have H := Hd.start w0
  refine CC.of (N := 6) Try.func91 rfl rfl rfl ?_
  refine WC.seq ?_
  refine WC.region ?_
  refine l_rd rfl rfl (x_assign ev_c) ?_
  refine WL.nil ?_
  refine WC.seq ?_
  refine WC.region ?_
  refine l_rd rfl rfl (x_move (by conv => lhs; whnf)) ?_
  refine l_rd rfl rfl (x_move (by conv => lhs; whnf)) ?_
  refine l_rdD rfl rfl (x_neq rfl rfl) (fun h5 => ?_) (fun h5 => ?_)
  ·
    exact absurd rfl h5
  ·
    refine l_rd rfl rfl (x_assign (by conv => lhs; whnf)) ?_
    refine WL.nil ?_
    refine WC.ret ?_
    refine atRet ?_
    exact RetM.one rfl (by (conv => lhs; whnf); try rfl) (⟨rfl, H.below 0 rfl⟩)

theorem c92 {x : ByteArray} (w : World) : CC Try.prog 92 [S x].toArray w (fun r w' => r = .bool false ∧ Ext w w') := by
  obtain ⟨w0, e0⟩ : ∃ w0, w0 = w := ⟨w, rfl⟩
  subst e0
  have H := Hd.start w0
  refine CC.of (N := 6) Try.func92 rfl rfl rfl ?_
  refine WC.seq ?_
  refine WC.region ?_
  refine l_rd rfl rfl (x_assign ev_c) ?_
  refine WL.nil ?_
  refine WC.seq ?_
  refine WC.region ?_
  refine l_rd rfl rfl (x_move (by conv => lhs; whnf)) ?_
  refine l_rd rfl rfl (x_move (by conv => lhs; whnf)) ?_
  refine l_rdD rfl rfl (x_neqS rfl rfl) (fun h5 => ?_) (fun h5 => ?_)
  ·
    exact absurd rfl h5
  ·
    refine l_rd rfl rfl (x_assign (by conv => lhs; whnf)) ?_
    refine WL.nil ?_
    refine WC.ret ?_
    refine atRet ?_
    exact RetM.one rfl (by (conv => lhs; whnf); try rfl) (⟨rfl, H.below 0 rfl⟩)

theorem c78 {x y : Int} (w : World) : CC Try.prog 78 [I x, I y].toArray w (fun r w' => r = I (cmpI x y) ∧ Ext w w') := by
  obtain ⟨w0, e0⟩ : ∃ w0, w0 = w := ⟨w, rfl⟩
  subst e0
  have H := Hd.start w0
  refine CC.of (N := 20) Try.func78 rfl rfl rfl ?_
  refine WC.seq ?_
  refine WC.region ?_
  refine l_rd rfl rfl (x_assign ev_c) ?_
  refine WL.nil ?_
  refine WC.seq ?_
  refine WC.region ?_
  refine l_rd rfl rfl (x_move (by conv => lhs; whnf)) ?_
  refine l_st rfl (s_callL cal91 (c91 _) ?_)
  rintro _ w ⟨rfl, e1⟩
  have H := H.ext e1
  refine l_rd rfl rfl (x_assign (by conv => lhs; whnf)) ?_
  refine WL.nil ?_
  refine WC.seq ?_
  refine WC.region ?_
  refine l_rd rfl rfl (x_move (by conv => lhs; whnf)) ?_
  refine l_st rfl (s_callL cal91 (c91 _) ?_)
  rintro _ w ⟨rfl, e1⟩
  have H := H.ext e1
  refine l_rd rfl rfl (x_assign (by conv => lhs; whnf)) ?_
  refine WL.nil ?_
  refine WC.seq ?_
  refine WC.seq ?_
  refine WC.region ?_
  refine l_rd rfl rfl (x_move (by conv => lhs; whnf)) ?_
  refine WL.nil ?_
  refine WC.cond0 rfl ?_
  refine WC.skip ?_
  refine WC.seq ?_
  refine WC.seq ?_
  refine WC.region ?_
  refine l_rd rfl rfl (x_move (by conv => lhs; whnf)) ?_
  refine WL.nil ?_
  refine WC.cond0 rfl ?_
  refine WC.skip ?_
  refine WC.seq ?_
  refine WC.seq ?_
  refine WC.region ?_
  refine l_rd rfl rfl (x_move (by conv => lhs; whnf)) ?_
  refine l_rd rfl rfl (x_move (by conv => lhs; whnf)) ?_
  refine l_rdD rfl rfl (x_lss rfl rfl) (fun h16 => ?_) (fun h16 => ?_)
  ·
    refine WL.nil ?_
    refine WC.cond1 rfl ?_
    refine WC.seq ?_
    refine WC.region ?_
    refine l_rd rfl rfl (x_assign ev_c) ?_
    refine WL.nil ?_
    refine WC.ret ?_
    refine atRet ?_
    exact RetM.one rfl (by (conv => lhs; whnf); try rfl) (⟨by rw [cmpI, if_pos h16], H.below 0 rfl⟩)
  ·
    refine WL.nil ?_
    refine WC.cond0 rfl ?_
    refine WC.skip ?_
    refine WC.seq ?_
    refine WC.seq ?_
    refine WC.region ?_
    refine l_rd rfl rfl (x_move (by conv => lhs; whnf)) ?_
    refine l_rd rfl rfl (x_move (by conv => lhs; whnf)) ?_
    refine l_rdD rfl rfl (x_gtr rfl rfl) (fun h19 => ?_) (fun h19 => ?_)
    ·
      refine WL.nil ?_
      refine WC.cond1 rfl ?_
      refine WC.seq ?_
      refine WC.region ?_
      refine l_rd rfl rfl (x_assign ev_c) ?_
      refine WL.nil ?_
      refine WC.ret ?_
      refine atRet ?_
      exact RetM.one rfl (by (conv => lhs; whnf); try rfl) (⟨by rw [cmpI, if_neg h16, if_pos h19], H.below 0 rfl⟩)
    ·
      refine WL.nil ?_
      refine WC.cond0 rfl ?_
      refine WC.skip ?_
      refine WC.seq ?_
      refine WC.region ?_
      refine l_rd rfl rfl (x_assign ev_c) ?_
      refine WL.nil ?_
      refine WC.ret ?_
      refine atRet ?_
      exact RetM.one rfl (by (conv => lhs; whnf); try rfl) (⟨by rw [cmpI, if_neg h16, if_neg h19], H.below 0 rfl⟩)

theorem c79 {x y : ByteArray} (w : World) : CC Try.prog 79 [S x, S y].toArray w (fun r w' => r = I (cmpS x y) ∧ Ext w w') := by
  obtain ⟨w0, e0⟩ : ∃ w0, w0 = w := ⟨w, rfl⟩
  subst e0
  have H := Hd.start w0
  refine CC.of (N := 20) Try.func79 rfl rfl rfl ?_
  refine WC.seq ?_
  refine WC.region ?_
  refine l_rd rfl rfl (x_assign ev_c) ?_
  refine WL.nil ?_
  refine WC.seq ?_
  refine WC.region ?_
  refine l_rd rfl rfl (x_move (by conv => lhs; whnf)) ?_
  refine l_st rfl (s_callL cal92 (c92 _) ?_)
  rintro _ w ⟨rfl, e1⟩
  have H := H.ext e1
  refine l_rd rfl rfl (x_assign (by conv => lhs; whnf)) ?_
  refine WL.nil ?_
  refine WC.seq ?_
  refine WC.region ?_
  refine l_rd rfl rfl (x_move (by conv => lhs; whnf)) ?_
  refine l_st rfl (s_callL cal92 (c92 _) ?_)
  rintro _ w ⟨rfl, e1⟩
  have H := H.ext e1
  refine l_rd rfl rfl (x_assign (by conv => lhs; whnf)) ?_
  refine WL.nil ?_
  refine WC.seq ?_
  refine WC.seq ?_
  refine WC.region ?_
  refine l_rd rfl rfl (x_move (by conv => lhs; whnf)) ?_
  refine WL.nil ?_
  refine WC.cond0 rfl ?_
  refine WC.skip ?_
  refine WC.seq ?_
  refine WC.seq ?_
  refine WC.region ?_
  refine l_rd rfl rfl (x_move (by conv => lhs; whnf)) ?_
  refine WL.nil ?_
  refine WC.cond0 rfl ?_
  refine WC.skip ?_
  refine WC.seq ?_
  refine WC.seq ?_
  refine WC.region ?_
  refine l_rd rfl rfl (x_move (by conv => lhs; whnf)) ?_
  refine l_rd rfl rfl (x_move (by conv => lhs; whnf)) ?_
  refine l_rdD rfl rfl (x_lssS rfl rfl) (fun h16 => ?_) (fun h16 => ?_)
  ·
    refine WL.nil ?_
    refine WC.cond1 rfl ?_
    refine WC.seq ?_
    refine WC.region ?_
    refine l_rd rfl rfl (x_assign ev_c) ?_
    refine WL.nil ?_
    refine WC.ret ?_
    refine atRet ?_
    exact RetM.one rfl (by (conv => lhs; whnf); try rfl) (⟨by rw [cmpS, if_pos h16], H.below 0 rfl⟩)
  ·
    refine WL.nil ?_
    refine WC.cond0 rfl ?_
    refine WC.skip ?_
    refine WC.seq ?_
    refine WC.seq ?_
    refine WC.region ?_
    refine l_rd rfl rfl (x_move (by conv => lhs; whnf)) ?_
    refine l_rd rfl rfl (x_move (by conv => lhs; whnf)) ?_
    refine l_rdD rfl rfl (x_gtrS rfl rfl) (fun h19 => ?_) (fun h19 => ?_)
    ·
      refine WL.nil ?_
      refine WC.cond1 rfl ?_
      refine WC.seq ?_
      refine WC.region ?_
      refine l_rd rfl rfl (x_assign ev_c) ?_
      refine WL.nil ?_
      refine WC.ret ?_
      refine atRet ?_
      exact RetM.one rfl (by (conv => lhs; whnf); try rfl) (⟨by rw [cmpS, if_neg h16, if_pos h19], H.below 0 rfl⟩)
    ·
      refine WL.nil ?_
      refine WC.cond0 rfl ?_
      refine WC.skip ?_
      refine WC.seq ?_
      refine WC.region ?_
      refine l_rd rfl rfl (x_assign ev_c) ?_
      refine WL.nil ?_
      refine WC.ret ?_
      refine atRet ?_
      exact RetM.one rfl (by (conv => lhs; whnf); try rfl) (⟨by rw [cmpS, if_neg h16, if_neg h19], H.below 0 rfl⟩)

theorem c77 {v : Value} {xs : List Int} (w : World) (hx : RdL w v I xs) : CC Try.prog 77 [v].toArray w (fun r w' => r = I (orI xs) ∧ Ext w w') := by
  obtain ⟨w0, e0⟩ : ∃ w0, w0 = w := ⟨w, rfl⟩
  subst e0
  have H := Hd.start w0
  obtain ⟨a, c, rfl⟩ := hx.shape
  have hle := hx.le
  refine CC.of (N := 18) Try.func77 rfl rfl rfl ?_
  refine WC.seq ?_
  refine WC.region ?_
  refine l_rd rfl rfl (x_assign ev_c) ?_
  refine WL.nil ?_
  refine WC.seq ?_
  refine WC.region ?_
  refine l_rd rfl rfl (x_assign ev_c) ?_
  refine WL.nil ?_
  refine WC.seq ?_
  refine WC.seq ?_
  refine WC.region ?_
  refine l_rd rfl rfl (x_move (by conv => lhs; whnf)) ?_
  refine l_rd rfl rfl (x_lenSlice Try.underlying112 rfl rfl) ?_
  refine l_rd rfl rfl (x_move ev_c) ?_
  refine WL.nil ?_
  refine WC.block ?_
  refine WC.loop (fun ρ ds w => ∃ k : Nat, k ≤ xs.length ∧ orI (xs.drop k) = orI xs ∧ ρ 8 = I k ∧ ρ 7 = I xs.length ∧ ρ 6 = .slice a xs.length c ∧ ρ 3 = I 0 ∧ ds = [] ∧ Hd (sy w0) w [fr w0]) (fun ρ w => xs.length - (match ρ 8 with | .int _ k => k.toNat | _ => 0)) (⟨0, Nat.zero_le _, rfl, rfl, rfl, rfl, rfl, rfl, H⟩) ?_
  repeat clear H
  rintro ρ ds w ⟨k, hk, he, h8, h7, h6, h3, rfl, H⟩
  refine WC.seq ?_
  refine WC.region ?_
  refine l_rdD rfl rfl (x_lss h8 h7) (fun h9 => ?_) (fun h9 => ?_)
  ·
    refine WL.nil ?_
    refine WC.seq ?_
    refine WC.cond1 rfl ?_
    refine WC.skip ?_
    refine WC.seq ?_
    refine WC.block ?_
    refine WC.seq ?_
    obtain ⟨x, hxk⟩ := lt_get (show k < xs.length by omega)
    obtain ⟨b1, o1, rfl, hc1⟩ := hx.el hxk
    refine WC.region ?_
    refine l_rd rfl rfl (x_indexAddr Try.underlying112 ty3 h6 h8 (by omega) (by omega)) ?_
    refine l_rd rfl rfl (x_load Try.underlying3 rfl rfl ((H.old 0 rfl).cell hc1)) ?_
    refine l_rd rfl rfl (x_assign (by conv => lhs; whnf)) ?_
    refine WL.nil ?_
    refine WC.seq ?_
    refine WC.region ?_
    refine l_rd rfl rfl (x_move (by conv => lhs; whnf)) ?_
    refine l_rd rfl rfl (x_move h3) ?_
    refine l_rdD rfl rfl (x_neq rfl rfl) (fun h14 => ?_) (fun h14 => ?_)
    ·
      refine WL.nil ?_
      refine WC.cond1 rfl ?_
      refine WC.seq ?_
      refine WC.region ?_
      refine l_rd rfl rfl (x_move (by conv => lhs; whnf)) ?_
      refine l_rd rfl rfl (x_assign (by conv => lhs; whnf)) ?_
      refine WL.nil ?_
      refine WC.ret ?_
      refine atRet ?_
      exact RetM.one rfl (by (conv => lhs; whnf); try rfl) (⟨by rw [← he, or_drop hxk, if_pos h14], H.below 0 rfl⟩)
    ·
      refine WL.nil ?_
      refine WC.cond0 rfl ?_
      refine WC.skip ?_
      refine WC.region ?_
      refine l_rd rfl rfl (x_add h8 rfl (by omega) (by omega)) ?_
      refine l_rd rfl rfl (x_move (by conv => lhs; whnf)) ?_
      refine WL.nil ?_
      refine WC.again (⟨k + 1, by omega, by rw [← he, or_drop hxk, if_neg h14], rfl, h7, h6, h3, rfl, H⟩) (by show _ - _ < _ - _; rw [h8]; show xs.length - ((k : Int) + 1).toNat < xs.length - (k : Int).toNat; omega)
  ·
    refine WL.nil ?_
    refine WC.seq ?_
    refine WC.cond0 rfl ?_
    refine WC.exit ?_
    refine WC.seq ?_
    refine WC.region ?_
    refine l_rd rfl rfl (x_move h3) ?_
    refine l_rd rfl rfl (x_assign (by conv => lhs; whnf)) ?_
    refine WL.nil ?_
    refine WC.ret ?_
    refine atRet ?_
    exact RetM.one rfl (by (conv => lhs; whnf); try rfl) (⟨by rw [← he, List.drop_of_length_le (by omega)]; rfl, H.below 0 rfl⟩)

theorem c72 {e f : Ed} (w : World) : CC Try.prog 72 [.agg (edC e).toArray, .agg (edC f).toArray].toArray w (fun r w' => r = .bool (decide (ahd e f)) ∧ Ext w w') := by
  obtain ⟨w0, e0⟩ : ∃ w0, w0 = w := ⟨w, rfl⟩
  subst e0
  have H := Hd.start w0
  refine CC.of (N := 43) Try.func72 rfl rfl rfl ?_
  refine WC.seq ?_
  refine WC.region ?_
  refine l_st rfl (s_box (by conv => lhs; whnf) H fun b2 w H => ?_)
  refine l_st rfl (s_box (by conv => lhs; whnf) H fun b3 w H => ?_)
  refine l_rd rfl rfl (x_assign ev_c) ?_
  refine WL.nil ?_
  refine WC.seq ?_
  refine WC.block ?_
  refine WC.seq ?_
  refine WC.region ?_
  refine l_rd rfl rfl (x_fieldAddr Try.underlying33 rfl rfl ty3 (by decide) rfl) ?_
  refine l_rd rfl rfl (x_load Try.underlying3 rfl rfl (H.cellL 1 rfl rfl)) ?_
  refine l_rd rfl rfl (x_fieldAddr Try.underlying33 rfl rfl ty3 (by decide) rfl) ?_
  refine l_rd rfl rfl (x_load Try.underlying3 rfl rfl (H.cellL 0 rfl rfl)) ?_
  refine l_rdD rfl rfl (x_neq rfl rfl) (fun h10 => ?_) (fun h10 => ?_)
  ·
    refine l_rd rfl rfl (x_assign (by conv => lhs; whnf)) ?_
    refine WL.nil ?_
    refine WC.cond1 rfl ?_
    refine WC.seq ?_
    refine WC.region ?_
    refine l_rd rfl rfl (x_fieldAddr Try.underlying33 rfl rfl ty3 (by decide) rfl) ?_
    refine l_rd rfl rfl (x_load Try.underlying3 rfl rfl (H.cellL 1 rfl rfl)) ?_
    refine l_rd rfl rfl (x_fieldAddr Try.underlying33 rfl rfl ty3 (by decide) rfl) ?_
    refine l_rd rfl rfl (x_load Try.underlying3 rfl rfl (H.cellL 0 rfl rfl)) ?_
    refine l_rdD rfl rfl (x_lss rfl rfl) (fun h15 => ?_) (fun h15 => ?_)
    ·
      refine l_rd rfl rfl (x_assign (by conv => lhs; whnf)) ?_
      refine WL.nil ?_
      refine WC.ret ?_
      refine atRet ?_
      exact RetM.one rfl (by (conv => lhs; whnf); try rfl) (⟨by rw [decide_eq_true (by unfold ahd; rw [if_pos h10]; exact h15)], H.below 2 rfl⟩)
    ·
      refine l_rd rfl rfl (x_assign (by conv => lhs; whnf)) ?_
      refine WL.nil ?_
      refine WC.ret ?_
      refine atRet ?_
      exact RetM.one rfl (by (conv => lhs; whnf); try rfl) (⟨by rw [decide_eq_false (by unfold ahd; rw [if_pos h10]; exact h15)], H.below 2 rfl⟩)
  ·
    refine l_rd rfl rfl (x_assign (by conv => lhs; whnf)) ?_
    refine WL.nil ?_
    refine WC.cond0 rfl ?_
    refine WC.seq ?_
    refine WC.region ?_
    refine l_rd rfl rfl (x_fieldAddr Try.underlying33 rfl rfl ty9 (by decide) rfl) ?_
    refine l_rd rfl rfl (x_load Try.underlying9 rfl rfl (H.cellL 1 rfl rfl)) ?_
    refine l_rd rfl rfl (x_fieldAddr Try.underlying33 rfl rfl ty9 (by decide) rfl) ?_
    refine l_rd rfl rfl (x_load Try.underlying9 rfl rfl (H.cellL 0 rfl rfl)) ?_
    refine l_rdD rfl rfl (x_neqS rfl rfl) (fun h21 => ?_) (fun h21 => ?_)
    ·
      refine l_rd rfl rfl (x_assign (by conv => lhs; whnf)) ?_
      refine WL.nil ?_
      refine WC.cond1 rfl ?_
      refine WC.seq ?_
      refine WC.region ?_
      refine l_rd rfl rfl (x_fieldAddr Try.underlying33 rfl rfl ty9 (by decide) rfl) ?_
      refine l_rd rfl rfl (x_load Try.underlying9 rfl rfl (H.cellL 1 rfl rfl)) ?_
      refine l_rd rfl rfl (x_fieldAddr Try.underlying33 rfl rfl ty9 (by decide) rfl) ?_
      refine l_rd rfl rfl (x_load Try.underlying9 rfl rfl (H.cellL 0 rfl rfl)) ?_
      refine l_rdD rfl rfl (x_lssS rfl rfl) (fun h26 => ?_) (fun h26 => ?_)
      ·
        refine l_rd rfl rfl (x_assign (by conv => lhs; whnf)) ?_
        refine WL.nil ?_
        refine WC.ret ?_
        refine atRet ?_
        exact RetM.one rfl (by (conv => lhs; whnf); try rfl) (⟨by rw [decide_eq_true (by unfold ahd; rw [if_neg h10]; rw [if_pos h21]; exact h26)], H.below 2 rfl⟩)
      ·
        refine l_rd rfl rfl (x_assign (by conv => lhs; whnf)) ?_
        refine WL.nil ?_
        refine WC.ret ?_
        refine atRet ?_
        exact RetM.one rfl (by (conv => lhs; whnf); try rfl) (⟨by rw [decide_eq_false (by unfold ahd; rw [if_neg h10]; rw [if_pos h21]; exact h26)], H.below 2 rfl⟩)
    ·
      refine l_rd rfl rfl (x_assign (by conv => lhs; whnf)) ?_
      refine WL.nil ?_
      refine WC.cond0 rfl ?_
      refine WC.seq ?_
      refine WC.region ?_
      refine l_rd rfl rfl (x_fieldAddr Try.underlying33 rfl rfl ty9 (by decide) rfl) ?_
      refine l_rd rfl rfl (x_load Try.underlying9 rfl rfl (H.cellL 1 rfl rfl)) ?_
      refine l_rd rfl rfl (x_fieldAddr Try.underlying33 rfl rfl ty9 (by decide) rfl) ?_
      refine l_rd rfl rfl (x_load Try.underlying9 rfl rfl (H.cellL 0 rfl rfl)) ?_
      refine l_rdD rfl rfl (x_neqS rfl rfl) (fun h32 => ?_) (fun h32 => ?_)
      ·
        refine l_rd rfl rfl (x_assign (by conv => lhs; whnf)) ?_
        refine WL.nil ?_
        refine WC.cond1 rfl ?_
        refine WC.seq ?_
        refine WC.region ?_
        refine l_rd rfl rfl (x_fieldAddr Try.underlying33 rfl rfl ty9 (by decide) rfl) ?_
        refine l_rd rfl rfl (x_load Try.underlying9 rfl rfl (H.cellL 1 rfl rfl)) ?_
        refine l_rd rfl rfl (x_fieldAddr Try.underlying33 rfl rfl ty9 (by decide) rfl) ?_
        refine l_rd rfl rfl (x_load Try.underlying9 rfl rfl (H.cellL 0 rfl rfl)) ?_
        refine l_rdD rfl rfl (x_lssS rfl rfl) (fun h37 => ?_) (fun h37 => ?_)
        ·
          refine l_rd rfl rfl (x_assign (by conv => lhs; whnf)) ?_
          refine WL.nil ?_
          refine WC.ret ?_
          refine atRet ?_
          exact RetM.one rfl (by (conv => lhs; whnf); try rfl) (⟨by rw [decide_eq_true (by unfold ahd; rw [if_neg h10]; rw [if_neg h21]; rw [if_pos h32]; exact h37)], H.below 2 rfl⟩)
        ·
          refine l_rd rfl rfl (x_assign (by conv => lhs; whnf)) ?_
          refine WL.nil ?_
          refine WC.ret ?_
          refine atRet ?_
          exact RetM.one rfl (by (conv => lhs; whnf); try rfl) (⟨by rw [decide_eq_false (by unfold ahd; rw [if_neg h10]; rw [if_neg h21]; rw [if_pos h32]; exact h37)], H.below 2 rfl⟩)
      ·
        refine l_rd rfl rfl (x_assign (by conv => lhs; whnf)) ?_
        refine WL.nil ?_
        refine WC.cond0 rfl ?_
        refine WC.skip ?_
        refine WC.seq ?_
        refine WC.region ?_
        refine l_rd rfl rfl (x_fieldAddr Try.underlying33 rfl rfl ty9 (by decide) rfl) ?_
        refine l_rd rfl rfl (x_load Try.underlying9 rfl rfl (H.cellL 1 rfl rfl)) ?_
        refine l_rd rfl rfl (x_fieldAddr Try.underlying33 rfl rfl ty9 (by decide) rfl) ?_
        refine l_rd rfl rfl (x_load Try.underlying9 rfl rfl (H.cellL 0 rfl rfl)) ?_
        refine l_rdD rfl rfl (x_lssS rfl rfl) (fun h42 => ?_) (fun h42 => ?_)
        ·
          refine l_rd rfl rfl (x_assign (by conv => lhs; whnf)) ?_
          refine WL.nil ?_
          refine WC.ret ?_
          refine atRet ?_
          exact RetM.one rfl (by (conv => lhs; whnf); try rfl) (⟨by rw [decide_eq_true (by unfold ahd; rw [if_neg h10]; rw [if_neg h21]; rw [if_neg h32]; exact h42)], H.below 2 rfl⟩)
        ·
          refine l_rd rfl rfl (x_assign (by conv => lhs; whnf)) ?_
          refine WL.nil ?_
          refine WC.ret ?_
          refine atRet ?_
          exact RetM.one rfl (by (conv => lhs; whnf); try rfl) (⟨by rw [decide_eq_false (by unfold ahd; rw [if_neg h10]; rw [if_neg h21]; rw [if_neg h32]; exact h42)], H.below 2 rfl⟩)

theorem c84 {e f : Ed} (w : World) : CC Try.prog 84 [.agg (edC e).toArray, .agg (edC f).toArray].toArray w (fun r w' => r = I (cmpE e f) ∧ Ext w w') := by
  obtain ⟨w0, e0⟩ : ∃ w0, w0 = w := ⟨w, rfl⟩
  subst e0
  have H := Hd.start w0
  refine CC.of (N := 13) Try.func84 rfl rfl rfl ?_
  refine WC.seq ?_
  refine WC.region ?_
  refine l_st rfl (s_box (by conv => lhs; whnf) H fun b2 w H => ?_)
  refine l_st rfl (s_box (by conv => lhs; whnf) H fun b3 w H => ?_)
  refine l_rd rfl rfl (x_assign ev_c) ?_
  refine WL.nil ?_
  refine WC.seq ?_
  refine WC.block ?_
  refine WC.seq ?_
  refine WC.region ?_
  refine l_rd rfl rfl (x_loadF (vs := [_, _, _, _, _]) Try.underlying33 rfl ty33 rfl rfl (H.cellsL 1 rfl rfl)) ?_
  refine l_rd rfl rfl (x_loadF (vs := [_, _, _, _, _]) Try.underlying33 rfl ty33 rfl rfl (H.cellsL 0 rfl rfl)) ?_
  refine l_st rfl (s_callL cal72 (c72 _) ?_)
  rintro r w ⟨hr1, e1⟩
  have H := H.ext e1
  by_cases h8 : ahd e f
  ·
    obtain rfl : r = .bool true := by rw [hr1, decide_eq_true h8]
    refine l_rd rfl rfl (x_assign (by conv => lhs; whnf)) ?_
    refine WL.nil ?_
    refine WC.cond1 rfl ?_
    refine WC.seq ?_
    refine WC.region ?_
    refine l_rd rfl rfl (x_assign ev_c) ?_
    refine WL.nil ?_
    refine WC.ret ?_
    refine atRet ?_
    exact RetM.one rfl (by (conv => lhs; whnf); try rfl) (⟨by rw [cmpE, if_pos h8], H.below 2 rfl⟩)
  ·
    obtain rfl : r = .bool false := by rw [hr1, decide_eq_false h8]
    refine l_rd rfl rfl (x_assign (by conv => lhs; whnf)) ?_
    refine WL.nil ?_
    refine WC.cond0 rfl ?_
    refine WC.seq ?_
    refine WC.region ?_
    refine l_rd rfl rfl (x_loadF (vs := [_, _, _, _, _]) Try.underlying33 rfl ty33 rfl rfl (H.cellsL 0 rfl rfl)) ?_
    refine l_rd rfl rfl (x_loadF (vs := [_, _, _, _, _]) Try.underlying33 rfl ty33 rfl rfl (H.cellsL 1 rfl rfl)) ?_
    refine l_st rfl (s_callL cal72 (c72 _) ?_)
    rintro r w ⟨hr1, e1⟩
    have H := H.ext e1
    by_cases h12 : ahd f e
    ·
      obtain rfl : r = .bool true := by rw [hr1, decide_eq_true h12]
      refine l_rd rfl rfl (x_assign (by conv => lhs; whnf)) ?_
      refine WL.nil ?_
      refine WC.cond1 rfl ?_
      refine WC.seq ?_
      refine WC.region ?_
      refine l_rd rfl rfl (x_assign ev_c) ?_
      refine WL.nil ?_
      refine WC.ret ?_
      refine atRet ?_
      exact RetM.one rfl (by (conv => lhs; whnf); try rfl) (⟨by rw [cmpE, if_neg h8, if_pos h12], H.below 2 rfl⟩)
    ·
      obtain rfl : r = .bool false := by rw [hr1, decide_eq_false h12]
      refine l_rd rfl rfl (x_assign (by conv => lhs; whnf)) ?_
      refine WL.nil ?_
      refine WC.cond0 rfl ?_
      refine WC.skip ?_
      refine WC.seq ?_
      refine WC.region ?_
      refine l_rd rfl rfl (x_assign ev_c) ?_
      refine WL.nil ?_
      refine WC.ret ?_
      refine atRet ?_
      exact RetM.one rfl (by (conv => lhs; whnf); try rfl) (⟨by rw [cmpE, if_neg h8, if_neg h12], H.below 2 rfl⟩)

theorem c67 {e f : Ed} (w : World) : CC Try.prog 67 [.agg (edC e).toArray, .agg (edC f).toArray].toArray w (fun r w' => r = .bool (decide (cmpE e f = 0)) ∧ Ext w w') := by
  obtain ⟨w0, e0⟩ : ∃ w0, w0 = w := ⟨w, rfl⟩
  subst e0
  have H := Hd.start w0
  refine CC.of (N := 9) Try.func67 rfl rfl rfl ?_
  refine WC.seq ?_
  refine WC.region ?_
  refine l_st rfl (s_box (by conv => lhs; whnf) H fun b2 w H => ?_)
  refine l_st rfl (s_box (by conv => lhs; whnf) H fun b3 w H => ?_)
  refine l_rd rfl rfl (x_assign ev_c) ?_
  refine WL.nil ?_
  refine WC.seq ?_
  refine WC.region ?_
  refine l_rd rfl rfl (x_loadF (vs := [_, _, _, _, _]) Try.underlying33 rfl ty33 rfl rfl (H.cellsL 1 rfl rfl)) ?_
  refine l_rd rfl rfl (x_loadF (vs := [_, _, _, _, _]) Try.underlying33 rfl ty33 rfl rfl (H.cellsL 0 rfl rfl)) ?_
  refine l_st rfl (s_callL cal84 (c84 _) ?_)
  rintro _ w ⟨rfl, e1⟩
  have H := H.ext e1
  refine l_rdD rfl rfl (x_eql rfl rfl) (fun h8 => ?_) (fun h8 => ?_)
  ·
    refine l_rd rfl rfl (x_assign (by conv => lhs; whnf)) ?_
    refine WL.nil ?_
    refine WC.ret ?_
    refine atRet ?_
    exact RetM.one rfl (by (conv => lhs; whnf); try rfl) (⟨by rw [decide_eq_true h8], H.below 2 rfl⟩)
  ·
    refine l_rd rfl rfl (x_assign (by conv => lhs; whnf)) ?_
    refine WL.nil ?_
    refine WC.ret ?_
    refine atRet ?_
    exact RetM.one rfl (by (conv => lhs; whnf); try rfl) (⟨by rw [decide_eq_false h8], H.below 2 rfl⟩)

theorem c66 {x : Int} (w : World) : CC Try.prog 66 [I x].toArray w (fun r w' => r = .bool (decide (0 ≤ x ∧ x ≤ 1099511627776)) ∧ Ext w w') := by
  obtain ⟨w0, e0⟩ : ∃ w0, w0 = w := ⟨w, rfl⟩
  subst e0
  have H := Hd.start w0
  refine CC.of (N := 9) Try.func66 rfl rfl rfl ?_
  refine WC.seq ?_
  refine WC.region ?_
  refine l_rd rfl rfl (x_assign ev_c) ?_
  refine WL.nil ?_
  refine WC.seq ?_
  refine WC.region ?_
  refine l_rd rfl rfl (x_move (by conv => lhs; whnf)) ?_
  refine l_rdD rfl rfl (x_geq rfl rfl) (fun h4 => ?_) (fun h4 => ?_)
  ·
    refine l_rd rfl rfl (x_move (by conv => lhs; whnf)) ?_
    refine l_gy (wantY rfl rfl rfl) rfl rfl (x_move (by conv => lhs; whnf)) ?_
    refine l_gyD (wantY rfl rfl rfl) rfl rfl (x_leq rfl rfl) (fun h7 => ?_) (fun h7 => ?_)
    ·
      refine l_rd rfl rfl (x_pick1 rfl (by conv => lhs; whnf)) ?_
      refine l_rd rfl rfl (x_assign (by conv => lhs; whnf)) ?_
      refine WL.nil ?_
      refine WC.ret ?_
      refine atRet ?_
      exact RetM.one rfl (by (conv => lhs; whnf); try rfl) (⟨by rw [decide_eq_true (by omega)], H.below 0 rfl⟩)
    ·
      refine l_rd rfl rfl (x_pick1 rfl (by conv => lhs; whnf)) ?_
      refine l_rd rfl rfl (x_assign (by conv => lhs; whnf)) ?_
      refine WL.nil ?_
      refine WC.ret ?_
      refine atRet ?_
      exact RetM.one rfl (by (conv => lhs; whnf); try rfl) (⟨by rw [decide_eq_false (by omega)], H.below 0 rfl⟩)
  ·
    refine l_rd rfl rfl (x_move (by conv => lhs; whnf)) ?_
    refine l_gn (wantN rfl rfl rfl) rfl ?_
    refine l_gn (wantN rfl rfl rfl) rfl ?_
    refine l_rd rfl rfl (x_pick0 rfl ev_c) ?_
    refine l_rd rfl rfl (x_assign (by conv => lhs; whnf)) ?_
    refine WL.nil ?_
    refine WC.ret ?_
    refine atRet ?_
    exact RetM.one rfl (by (conv => lhs; whnf); try rfl) (⟨by rw [decide_eq_false (by omega)], H.below 0 rfl⟩)

end Go.Proofs.Ytahdodijpmkddaa
set_option linter.unusedVariables false
set_option linter.unusedSimpArgs false
namespace Go.Proofs.Ytahdodijpmkddaa
open Go Go.RowKit KE Go.Proofs
theorem cal73 : Cal Try.prog 73 := ⟨_, Try.func73, rfl, by decide⟩
theorem cal82 : Cal Try.prog 82 := ⟨_, Try.func82, rfl, by decide⟩
theorem cal83 : Cal Try.prog 83 := ⟨_, Try.func83, rfl, by decide⟩

def sgn (x : Int) : Prop := (97 ≤ x ∧ x ≤ 122) ∨ (48 ≤ x ∧ x ≤ 57) ∨ x = 95
instance (x : Int) : Decidable (sgn x) := by unfold sgn; infer_instance
def vtx (x : ByteArray) : Prop := (∀ (i : Nat) (h : i < x.size), sgn ((x[i].toNat : Nat) : Int)) ∧ 1 ≤ x.size ∧ x.size ≤ 20
noncomputable instance (x : ByteArray) : Decidable (vtx x) := Classical.propDecidable _
theorem ne_size {x : ByteArray} (h : x ≠ ⟨#[]⟩) : 1 ≤ x.size := by
  rcases Nat.eq_zero_or_pos x.size with h0 | h0
  · exact absurd (ByteArray.ext (Array.eq_empty_of_size_eq_zero h0)) h
  · exact h0
theorem size_ne {x : ByteArray} (h : x = ⟨#[]⟩) : x.size = 0 := by subst h; rfl
theorem c83 {x : Int} (w : World) : CC Try.prog 83 [.int .u8 x].toArray w (fun r w' => r = .bool (decide (97 ≤ x ∧ x ≤ 122)) ∧ Ext w w') := by
  obtain ⟨w0, e0⟩ : ∃ w0, w0 = w := ⟨w, rfl⟩
  subst e0
  have H := Hd.start w0
  refine CC.of (N := 9) Try.func83 rfl rfl rfl ?_
  refine WC.seq ?_
  refine WC.region ?_
  refine l_rd rfl rfl (x_assign ev_c) ?_
  refine WL.nil ?_
  refine WC.seq ?_
  refine WC.region ?_
  refine l_rd rfl rfl (x_move (by conv => lhs; whnf)) ?_
  refine l_rdD rfl rfl (x_geq rfl rfl) (fun h4 => ?_) (fun h4 => ?_)
  ·
    refine l_rd rfl rfl (x_move (by conv => lhs; whnf)) ?_
    refine l_gy (wantY rfl rfl rfl) rfl rfl (x_move (by conv => lhs; whnf)) ?_
    refine l_gyD (wantY rfl rfl rfl) rfl rfl (x_leq rfl rfl) (fun h7 => ?_) (fun h7 => ?_)
    ·
      refine l_rd rfl rfl (x_pick1 rfl (by conv => lhs; whnf)) ?_
      refine l_rd rfl rfl (x_assign (by conv => lhs; whnf)) ?_
      refine WL.nil ?_
      refine WC.ret ?_
      refine atRet ?_
      exact RetM.one rfl (by (conv => lhs; whnf); try rfl) (⟨by rw [decide_eq_true (by omega)], H.below 0 rfl⟩)
    ·
      refine l_rd rfl rfl (x_pick1 rfl (by conv => lhs; whnf)) ?_
      refine l_rd rfl rfl (x_assign (by conv => lhs; whnf)) ?_
      refine WL.nil ?_
      refine WC.ret ?_
      refine atRet ?_
      exact RetM.one rfl (by (conv => lhs; whnf); try rfl) (⟨by rw [decide_eq_false (by omega)], H.below 0 rfl⟩)
  ·
    refine l_rd rfl rfl (x_move (by conv => lhs; whnf)) ?_
    refine l_gn (wantN rfl rfl rfl) rfl ?_
    refine l_gn (wantN rfl rfl rfl) rfl ?_
    refine l_rd rfl rfl (x_pick0 rfl ev_c) ?_
    refine l_rd rfl rfl (x_assign (by conv => lhs; whnf)) ?_
    refine WL.nil ?_
    refine WC.ret ?_
    refine atRet ?_
    exact RetM.one rfl (by (conv => lhs; whnf); try rfl) (⟨by rw [decide_eq_false (by omega)], H.below 0 rfl⟩)

theorem c73 {x : Int} (w : World) : CC Try.prog 73 [.int .i32 x].toArray w (fun r w' => r = .bool (decide (97 ≤ x ∧ x ≤ 122)) ∧ Ext w w') := by
  obtain ⟨w0, e0⟩ : ∃ w0, w0 = w := ⟨w, rfl⟩
  subst e0
  have H := Hd.start w0
  refine CC.of (N := 9) Try.func73 rfl rfl rfl ?_
  refine WC.seq ?_
  refine WC.region ?_
  refine l_rd rfl rfl (x_assign ev_c) ?_
  refine WL.nil ?_
  refine WC.seq ?_
  refine WC.region ?_
  refine l_rd rfl rfl (x_move (by conv => lhs; whnf)) ?_
  refine l_rdD rfl rfl (x_geq rfl rfl) (fun h4 => ?_) (fun h4 => ?_)
  ·
    refine l_rd rfl rfl (x_move (by conv => lhs; whnf)) ?_
    refine l_gy (wantY rfl rfl rfl) rfl rfl (x_move (by conv => lhs; whnf)) ?_
    refine l_gyD (wantY rfl rfl rfl) rfl rfl (x_leq rfl rfl) (fun h7 => ?_) (fun h7 => ?_)
    ·
      refine l_rd rfl rfl (x_pick1 rfl (by conv => lhs; whnf)) ?_
      refine l_rd rfl rfl (x_assign (by conv => lhs; whnf)) ?_
      refine WL.nil ?_
      refine WC.ret ?_
      refine atRet ?_
      exact RetM.one rfl (by (conv => lhs; whnf); try rfl) (⟨by rw [decide_eq_true (by omega)], H.below 0 rfl⟩)
    ·
      refine l_rd rfl rfl (x_pick1 rfl (by conv => lhs; whnf)) ?_
      refine l_rd rfl rfl (x_assign (by conv => lhs; whnf)) ?_
      refine WL.nil ?_
      refine WC.ret ?_
      refine atRet ?_
      exact RetM.one rfl (by (conv => lhs; whnf); try rfl) (⟨by rw [decide_eq_false (by omega)], H.below 0 rfl⟩)
  ·
    refine l_rd rfl rfl (x_move (by conv => lhs; whnf)) ?_
    refine l_gn (wantN rfl rfl rfl) rfl ?_
    refine l_gn (wantN rfl rfl rfl) rfl ?_
    refine l_rd rfl rfl (x_pick0 rfl ev_c) ?_
    refine l_rd rfl rfl (x_assign (by conv => lhs; whnf)) ?_
    refine WL.nil ?_
    refine WC.ret ?_
    refine atRet ?_
    exact RetM.one rfl (by (conv => lhs; whnf); try rfl) (⟨by rw [decide_eq_false (by omega)], H.below 0 rfl⟩)

theorem c82 {x : Int} (w : World) : CC Try.prog 82 [.int .u8 x].toArray w (fun r w' => r = .bool (decide (sgn x)) ∧ Ext w w') := by
  obtain ⟨w0, e0⟩ : ∃ w0, w0 = w := ⟨w, rfl⟩
  subst e0
  have H := Hd.start w0
  refine CC.of (N := 17) Try.func82 rfl rfl rfl ?_
  refine WC.seq ?_
  refine WC.region ?_
  refine l_rd rfl rfl (x_assign ev_c) ?_
  refine WL.nil ?_
  refine WC.seq ?_
  refine WC.region ?_
  refine l_rd rfl rfl (x_move (by conv => lhs; whnf)) ?_
  refine l_st rfl (s_callL cal83 (c83 _) ?_)
  rintro r w ⟨hr1, e1⟩
  have H := H.ext e1
  by_cases h4 : 97 ≤ x ∧ x ≤ 122
  ·
    obtain rfl : r = .bool true := by rw [hr1, decide_eq_true h4]
    refine l_rd rfl rfl (x_move (by conv => lhs; whnf)) ?_
    refine l_gn (wantN rfl rfl rfl) rfl ?_
    refine l_gn (wantN rfl rfl rfl) rfl ?_
    refine l_gn (wantN rfl rfl rfl) rfl ?_
    refine l_gn (wantU rfl rfl rfl) rfl ?_
    refine l_gn (wantU rfl rfl rfl) rfl ?_
    refine l_gn (wantN rfl rfl rfl) rfl ?_
    refine l_rd rfl rfl (x_pick1 rfl ev_c) ?_
    refine l_rd rfl rfl (x_move (by conv => lhs; whnf)) ?_
    refine l_gn (wantN rfl rfl rfl) rfl ?_
    refine l_gn (wantN rfl rfl rfl) rfl ?_
    refine l_rd rfl rfl (x_pick1 rfl ev_c) ?_
    refine l_rd rfl rfl (x_assign (by conv => lhs; whnf)) ?_
    refine WL.nil ?_
    refine WC.ret ?_
    refine atRet ?_
    exact RetM.one rfl (by (conv => lhs; whnf); try rfl) (⟨by rw [decide_eq_true (by unfold sgn; omega)], H.below 0 rfl⟩)
  ·
    obtain rfl : r = .bool false := by rw [hr1, decide_eq_false h4]
    refine l_rd rfl rfl (x_move (by conv => lhs; whnf)) ?_
    refine l_gy (wantY rfl rfl rfl) rfl rfl (x_move (by conv => lhs; whnf)) ?_
    refine l_gyD (wantY rfl rfl rfl) rfl rfl (x_geq rfl rfl) (fun h7 => ?_) (fun h7 => ?_)
    ·
      refine l_gy (wantY rfl rfl rfl) rfl rfl (x_move (by conv => lhs; whnf)) ?_
      refine l_gy (wantY rfl rfl rfl) rfl rfl (x_move (by conv => lhs; whnf)) ?_
      refine l_gyD (wantY rfl rfl rfl) rfl rfl (x_leq rfl rfl) (fun h10 => ?_) (fun h10 => ?_)
      ·
        refine l_gy (wantY rfl rfl rfl) rfl rfl (x_pick1 rfl (by conv => lhs; whnf)) ?_
        refine l_rd rfl rfl (x_pick0 rfl (by conv => lhs; whnf)) ?_
        refine l_rd rfl rfl (x_move (by conv => lhs; whnf)) ?_
        refine l_gn (wantN rfl rfl rfl) rfl ?_
        refine l_gn (wantN rfl rfl rfl) rfl ?_
        refine l_rd rfl rfl (x_pick1 rfl ev_c) ?_
        refine l_rd rfl rfl (x_assign (by conv => lhs; whnf)) ?_
        refine WL.nil ?_
        refine WC.ret ?_
        refine atRet ?_
        exact RetM.one rfl (by (conv => lhs; whnf); try rfl) (⟨by rw [decide_eq_true (by unfold sgn; omega)], H.below 0 rfl⟩)
      ·
        refine l_gy (wantY rfl rfl rfl) rfl rfl (x_pick1 rfl (by conv => lhs; whnf)) ?_
        refine l_rd rfl rfl (x_pick0 rfl (by conv => lhs; whnf)) ?_
        refine l_rd rfl rfl (x_move (by conv => lhs; whnf)) ?_
        refine l_gy (wantY rfl rfl rfl) rfl rfl (x_move (by conv => lhs; whnf)) ?_
        refine l_gyD (wantY rfl rfl rfl) rfl rfl (x_eql rfl rfl) (fun h15 => ?_) (fun h15 => ?_)
        ·
          refine l_rd rfl rfl (x_pick0 rfl (by conv => lhs; whnf)) ?_
          refine l_rd rfl rfl (x_assign (by conv => lhs; whnf)) ?_
          refine WL.nil ?_
          refine WC.ret ?_
          refine atRet ?_
          exact RetM.one rfl (by (conv => lhs; whnf); try rfl) (⟨by rw [decide_eq_true (by unfold sgn; omega)], H.below 0 rfl⟩)
        ·
          refine l_rd rfl rfl (x_pick0 rfl (by conv => lhs; whnf)) ?_
          refine l_rd rfl rfl (x_assign (by conv => lhs; whnf)) ?_
          refine WL.nil ?_
          refine WC.ret ?_
          refine atRet ?_
          exact RetM.one rfl (by (conv => lhs; whnf); try rfl) (⟨by rw [decide_eq_false (by unfold sgn; omega)], H.below 0 rfl⟩)
    ·
      refine l_gy (wantY rfl rfl rfl) rfl rfl (x_move (by conv => lhs; whnf)) ?_
      refine l_gn (wantN rfl rfl rfl) rfl ?_
      refine l_gn (wantN rfl rfl rfl) rfl ?_
      refine l_gy (wantY rfl rfl rfl) rfl rfl (x_pick0 rfl ev_c) ?_
      refine l_rd rfl rfl (x_pick0 rfl (by conv => lhs; whnf)) ?_
      refine l_rd rfl rfl (x_move (by conv => lhs; whnf)) ?_
      refine l_gy (wantY rfl rfl rfl) rfl rfl (x_move (by conv => lhs; whnf)) ?_
      refine l_gyD (wantY rfl rfl rfl) rfl rfl (x_eql rfl rfl) (fun h15 => ?_) (fun h15 => ?_)
      ·
        refine l_rd rfl rfl (x_pick0 rfl (by conv => lhs; whnf)) ?_
        refine l_rd rfl rfl (x_assign (by conv => lhs; whnf)) ?_
        refine WL.nil ?_
        refine WC.ret ?_
        refine atRet ?_
        exact RetM.one rfl (by (conv => lhs; whnf); try rfl) (⟨by rw [decide_eq_true (by unfold sgn; omega)], H.below 0 rfl⟩)
      ·
        refine l_rd rfl rfl (x_pick0 rfl (by conv => lhs; whnf)) ?_
        refine l_rd rfl rfl (x_assign (by conv => lhs; whnf)) ?_
        refine WL.nil ?_
        refine WC.ret ?_
        refine atRet ?_
        exact RetM.one rfl (by (conv => lhs; whnf); try rfl) (⟨by rw [decide_eq_false (by unfold sgn; omega)], H.below 0 rfl⟩)

theorem c63 {x : ByteArray} (w : World) (hsz : x.size ≤ 140737488355328) : CC Try.prog 63 [S x].toArray w (fun r w' => r = .bool (decide (vtx x)) ∧ Ext w w') := by
  obtain ⟨w0, e0⟩ : ∃ w0, w0 = w := ⟨w, rfl⟩
  subst e0
  have H := Hd.start w0
  refine CC.of (N := 23) Try.func63 rfl rfl rfl ?_
  refine WC.seq ?_
  refine WC.region ?_
  refine l_rd rfl rfl (x_assign ev_c) ?_
  refine WL.nil ?_
  refine WC.seq ?_
  refine WC.seq ?_
  refine WC.region ?_
  refine l_rd rfl rfl (x_assign ev_c) ?_
  refine WL.nil ?_
  refine WC.block ?_
  refine WC.loop (fun ρ ds w => ∃ k : Nat, k ≤ x.size ∧ (∀ (i : Nat) (h : i < x.size), i < k → sgn ((x[i].toNat : Nat) : Int)) ∧ ρ 3 = I k ∧ ρ 0 = S x ∧ ds = [] ∧ Hd (sy w0) w [fr w0]) (fun ρ w => x.size - (match ρ 3 with | .int _ k => k.toNat | _ => 0)) (⟨0, Nat.zero_le _, fun i _ h => absurd h (by omega), rfl, rfl, rfl, H⟩) ?_
  repeat clear H
  rintro ρ ds w ⟨k, hk, he, h3, h0, rfl, H⟩
  refine WC.seq ?_
  refine WC.seq ?_
  refine WC.region ?_
  refine l_rd rfl rfl (x_move h3) ?_
  refine l_rd rfl rfl (x_move h0) ?_
  refine l_rd rfl rfl (x_lenStr Try.underlying9 rfl rfl) ?_
  refine l_rdD rfl rfl (x_lss rfl rfl) (fun h7 => ?_) (fun h7 => ?_)
  ·
    refine WL.nil ?_
    refine WC.cond1 rfl ?_
    refine WC.skip ?_
    refine WC.seq ?_
    refine WC.block ?_
    refine WC.seq ?_
    have hkx : k < x.size := by omega
    refine WC.region ?_
    refine l_rd rfl rfl (x_move h0) ?_
    refine l_rd rfl rfl (x_move h3) ?_
    refine l_rd rfl rfl (x_indexS Try.underlying9 rfl rfl (by omega) (by omega)) ?_
    refine l_st rfl (s_callL cal82 (c82 (x := ((x[k].toNat : Nat) : Int)) _) ?_)
    rintro r w ⟨hr1, e1⟩
    have H := H.ext e1
    by_cases h13 : sgn ((x[k].toNat : Nat) : Int)
    ·
      obtain rfl : r = .bool true := by rw [hr1, decide_eq_true h13]
      refine l_rd rfl rfl (x_not rfl) ?_
      refine WL.nil ?_
      refine WC.cond0 rfl ?_
      refine WC.skip ?_
      refine WC.region ?_
      refine l_rd rfl rfl (x_move h3) ?_
      refine l_rd rfl rfl (x_add rfl rfl (by omega) (by omega)) ?_
      refine l_rd rfl rfl (x_assign (by conv => lhs; whnf)) ?_
      refine WL.nil ?_
      refine WC.again (⟨k + 1, by omega, fun i hi hik => by
            by_cases e : i = k
            · subst e; exact h13
            · exact he i hi (by omega), rfl, h0, rfl, H⟩) (by show _ - _ < _ - _; rw [h3]; show x.size - ((k : Int) + 1).toNat < x.size - (k : Int).toNat; omega)
    ·
      obtain rfl : r = .bool false := by rw [hr1, decide_eq_false h13]
      refine l_rd rfl rfl (x_not rfl) ?_
      refine WL.nil ?_
      refine WC.cond1 rfl ?_
      refine WC.seq ?_
      refine WC.region ?_
      refine l_rd rfl rfl (x_assign ev_c) ?_
      refine WL.nil ?_
      refine WC.ret ?_
      refine atRet ?_
      exact RetM.one rfl (by (conv => lhs; whnf); try rfl) (⟨by rw [decide_eq_false (fun h => h13 (h.1 k hkx))], H.below 0 rfl⟩)
  ·
    refine WL.nil ?_
    refine WC.cond0 rfl ?_
    refine WC.exit ?_
    refine WC.seq ?_
    refine WC.region ?_
    refine l_rd rfl rfl (x_move h0) ?_
    refine l_rd rfl rfl (x_lenStr Try.underlying9 rfl rfl) ?_
    refine l_rdD rfl rfl (x_geq rfl rfl) (fun h17 => ?_) (fun h17 => ?_)
    ·
      refine l_rd rfl rfl (x_move (by conv => lhs; whnf)) ?_
      refine l_gy (wantY rfl rfl rfl) rfl rfl (x_move h0) ?_
      refine l_gy (wantY rfl rfl rfl) rfl rfl (x_lenStr Try.underlying9 rfl rfl) ?_
      refine l_gyD (wantY rfl rfl rfl) rfl rfl (x_leq rfl rfl) (fun h21 => ?_) (fun h21 => ?_)
      ·
        refine l_rd rfl rfl (x_pick1 rfl (by conv => lhs; whnf)) ?_
        refine l_rd rfl rfl (x_assign (by conv => lhs; whnf)) ?_
        refine WL.nil ?_
        refine WC.ret ?_
        refine atRet ?_
        exact RetM.one rfl (by (conv => lhs; whnf); try rfl) (⟨by rw [decide_eq_true ⟨fun i hi => he i hi (by omega), by omega, by omega⟩], H.below 0 rfl⟩)
      ·
        refine l_rd rfl rfl (x_pick1 rfl (by conv => lhs; whnf)) ?_
        refine l_rd rfl rfl (x_assign (by conv => lhs; whnf)) ?_
        refine WL.nil ?_
        refine WC.ret ?_
        refine atRet ?_
        exact RetM.one rfl (by (conv => lhs; whnf); try rfl) (⟨by rw [decide_eq_false (fun h => by have := h.2; omega)], H.below 0 rfl⟩)
    ·
      refine l_rd rfl rfl (x_move (by conv => lhs; whnf)) ?_
      refine l_gn (wantN rfl rfl rfl) rfl ?_
      refine l_gn (wantN rfl rfl rfl) rfl ?_
      refine l_gn (wantN rfl rfl rfl) rfl ?_
      refine l_rd rfl rfl (x_pick0 rfl ev_c) ?_
      refine l_rd rfl rfl (x_assign (by conv => lhs; whnf)) ?_
      refine WL.nil ?_
      refine WC.ret ?_
      refine atRet ?_
      exact RetM.one rfl (by (conv => lhs; whnf); try rfl) (⟨by rw [decide_eq_false (fun h => by have := h.2; omega)], H.below 0 rfl⟩)

theorem c53 {x : ByteArray} (w : World) : CC Try.prog 53 [S x].toArray w (fun r w' => r = .bool (decide (vtx x)) ∧ Ext w w') := by
  obtain ⟨w0, e0⟩ : ∃ w0, w0 = w := ⟨w, rfl⟩
  subst e0
  have H := Hd.start w0
  refine CC.of (N := 32) Try.func53 rfl rfl rfl ?_
  refine WC.seq ?_
  refine WC.region ?_
  refine l_rd rfl rfl (x_assign ev_c) ?_
  refine WL.nil ?_
  refine WC.seq ?_
  refine WC.seq ?_
  refine WC.region ?_
  refine l_rd rfl rfl (x_move (by conv => lhs; whnf)) ?_
  refine l_st rfl (s_rangeS Try.underlying9 rfl H fun i6 w H => ?_)
  refine WL.nil ?_
  refine WC.block ?_
  refine WC.loop (fun ρ ds w => ∃ (b p : Nat), p ≤ x.size ∧ (∀ (i : Nat) (h : i < x.size), i < p → sgn ((x[i].toNat : Nat) : Int)) ∧ ρ 6 = .pointer (some ⟨b, 0, none⟩) ∧ ρ 0 = S x ∧ ds = [] ∧ Hd (sy w0) w [pt b (.stringIter x p), fr w0]) (fun ρ w => x.size - strIt w (ρ 6)) (⟨_, 0, Nat.zero_le _, fun i _ h => absurd h (by omega), rfl, rfl, rfl, H⟩) ?_
  repeat clear H
  rintro ρ ds w ⟨b, p, hk, he, h6, h0, rfl, H⟩
  refine WC.seq ?_
  refine WC.region ?_
  have hob := H.obj 0 rfl
  refine l_st rfl (s_nextV 0 rfl h6 H (fun hp ha w H => ?_) (fun hp ha cc qq hcc w H => ?_) (fun hp => ?_))
  ·
    obtain ⟨xx, hxx⟩ : ∃ xx : Int, xx = ((x[p].toNat : Nat) : Int) := ⟨_, rfl⟩
    refine l_rd rfl rfl (x_extract rfl rfl) ?_
    refine WL.nil ?_
    refine WC.seq ?_
    refine WC.cond1 rfl ?_
    refine WC.skip ?_
    refine WC.block ?_
    refine WC.seq ?_
    refine WC.region ?_
    refine l_rd rfl rfl (x_extract rfl rfl) ?_
    refine l_rd rfl rfl (x_assign (by conv => lhs; whnf)) ?_
    refine WL.nil ?_
    refine WC.seq ?_
    refine WC.region ?_
    refine l_rd rfl rfl (x_move (by conv => lhs; whnf)) ?_
    refine l_st rfl (s_callL cal73 (c73 _) ?_)
    rintro r w ⟨hr1, e1⟩
    have H := H.ext e1
    by_cases h11 : 97 ≤ ((x[p].toNat : Nat) : Int) ∧ ((x[p].toNat : Nat) : Int) ≤ 122
    ·
      obtain rfl : r = .bool true := by rw [hr1, decide_eq_true h11]
      refine l_rd rfl rfl (x_not rfl) ?_
      refine l_rd rfl rfl (x_move (by conv => lhs; whnf)) ?_
      refine l_gn (wantN rfl rfl rfl) rfl ?_
      refine l_gn (wantN rfl rfl rfl) rfl ?_
      refine l_rd rfl rfl (x_pick0 rfl ev_c) ?_
      refine l_rd rfl rfl (x_move (by conv => lhs; whnf)) ?_
      refine l_gn (wantN rfl rfl rfl) rfl ?_
      refine l_gn (wantN rfl rfl rfl) rfl ?_
      refine l_gn (wantN rfl rfl rfl) rfl ?_
      refine l_gn (wantU rfl rfl rfl) rfl ?_
      refine l_gn (wantU rfl rfl rfl) rfl ?_
      refine l_gn (wantN rfl rfl rfl) rfl ?_
      refine l_rd rfl rfl (x_pick0 rfl ev_c) ?_
      refine WL.nil ?_
      refine WC.cond0 rfl ?_
      refine WC.skip ?_
      refine blockE_n ?_
      refine WC.again (⟨b, p + 1, by omega, fun i hi hik => by
            by_cases e : i = p
            · subst e; unfold sgn; omega
            · exact he i hi (by omega), h6, h0, rfl, H⟩) (by show x.size - strIt _ (ρ 6) < x.size - strIt _ (ρ 6); rw [h6, strIt_eq (H.obj 0 rfl), strIt_eq hob]; omega)
    ·
      obtain rfl : r = .bool false := by rw [hr1, decide_eq_false h11]
      refine l_rd rfl rfl (x_not rfl) ?_
      refine l_rd rfl rfl (x_move (by conv => lhs; whnf)) ?_
      refine l_gy (wantY rfl rfl rfl) rfl rfl (x_move (by conv => lhs; whnf)) ?_
      refine l_gyD (wantY rfl rfl rfl) rfl rfl (x_neq rfl rfl) (fun h15 => ?_) (fun h15 => ?_)
      ·
        refine l_rd rfl rfl (x_pick1 rfl (by conv => lhs; whnf)) ?_
        refine l_rd rfl rfl (x_move (by conv => lhs; whnf)) ?_
        refine l_gy (wantY rfl rfl rfl) rfl rfl (x_move (by conv => lhs; whnf)) ?_
        refine l_gyD (wantY rfl rfl rfl) rfl rfl (x_lss rfl rfl) (fun h19 => ?_) (fun h19 => ?_)
        ·
          refine l_gy (wantY rfl rfl rfl) rfl rfl (x_move (by conv => lhs; whnf)) ?_
          refine l_gn (wantN rfl rfl rfl) rfl ?_
          refine l_gn (wantN rfl rfl rfl) rfl ?_
          refine l_gy (wantY rfl rfl rfl) rfl rfl (x_pick1 rfl ev_c) ?_
          refine l_rd rfl rfl (x_pick1 rfl (by conv => lhs; whnf)) ?_
          refine WL.nil ?_
          refine WC.cond1 rfl ?_
          refine WC.seq ?_
          have hns : ¬ sgn ((x[p].toNat : Nat) : Int) := by unfold sgn; omega
          refine WC.region ?_
          refine l_rd rfl rfl (x_assign ev_c) ?_
          refine WL.nil ?_
          refine WC.ret ?_
          refine atRet ?_
          exact RetM.one (v := .bool false) rfl rfl ⟨by rw [decide_eq_false (fun h => hns (h.1 p hp))], H.below 1 rfl⟩
        ·
          refine l_gy (wantY rfl rfl rfl) rfl rfl (x_move (by conv => lhs; whnf)) ?_
          refine l_gy (wantY rfl rfl rfl) rfl rfl (x_move (by conv => lhs; whnf)) ?_
          refine l_gyD (wantY rfl rfl rfl) rfl rfl (x_gtr rfl rfl) (fun h22 => ?_) (fun h22 => ?_)
          ·
            refine l_gy (wantY rfl rfl rfl) rfl rfl (x_pick0 rfl (by conv => lhs; whnf)) ?_
            refine l_rd rfl rfl (x_pick1 rfl (by conv => lhs; whnf)) ?_
            refine WL.nil ?_
            refine WC.cond1 rfl ?_
            refine WC.seq ?_
            have hns : ¬ sgn ((x[p].toNat : Nat) : Int) := by unfold sgn; omega
            refine WC.region ?_
            refine l_rd rfl rfl (x_assign ev_c) ?_
            refine WL.nil ?_
            refine WC.ret ?_
            refine atRet ?_
            exact RetM.one (v := .bool false) rfl rfl ⟨by rw [decide_eq_false (fun h => hns (h.1 p hp))], H.below 1 rfl⟩
          ·
            refine l_gy (wantY rfl rfl rfl) rfl rfl (x_pick0 rfl (by conv => lhs; whnf)) ?_
            refine l_rd rfl rfl (x_pick1 rfl (by conv => lhs; whnf)) ?_
            refine WL.nil ?_
            refine WC.cond0 rfl ?_
            refine WC.skip ?_
            refine blockE_n ?_
            refine WC.again (⟨b, p + 1, by omega, fun i hi hik => by
                  by_cases e : i = p
                  · subst e; unfold sgn; omega
                  · exact he i hi (by omega), h6, h0, rfl, H⟩) (by show x.size - strIt _ (ρ 6) < x.size - strIt _ (ρ 6); rw [h6, strIt_eq (H.obj 0 rfl), strIt_eq hob]; omega)
      ·
        refine l_rd rfl rfl (x_pick1 rfl (by conv => lhs; whnf)) ?_
        refine l_rd rfl rfl (x_move (by conv => lhs; whnf)) ?_
        refine l_gn (wantN rfl rfl rfl) rfl ?_
        refine l_gn (wantN rfl rfl rfl) rfl ?_
        refine l_gn (wantN rfl rfl rfl) rfl ?_
        refine l_gn (wantU rfl rfl rfl) rfl ?_
        refine l_gn (wantU rfl rfl rfl) rfl ?_
        refine l_gn (wantN rfl rfl rfl) rfl ?_
        refine l_rd rfl rfl (x_pick0 rfl ev_c) ?_
        refine WL.nil ?_
        refine WC.cond0 rfl ?_
        refine WC.skip ?_
        refine blockE_n ?_
        refine WC.again (⟨b, p + 1, by omega, fun i hi hik => by
              by_cases e : i = p
              · subst e; unfold sgn; omega
              · exact he i hi (by omega), h6, h0, rfl, H⟩) (by show x.size - strIt _ (ρ 6) < x.size - strIt _ (ρ 6); rw [h6, strIt_eq (H.obj 0 rfl), strIt_eq hob]; omega)
  ·
    refine l_rd rfl rfl (x_extract rfl rfl) ?_
    refine WL.nil ?_
    refine WC.seq ?_
    refine WC.cond1 rfl ?_
    refine WC.skip ?_
    refine WC.block ?_
    refine WC.seq ?_
    refine WC.region ?_
    refine l_rd rfl rfl (x_extract rfl rfl) ?_
    refine l_rd rfl rfl (x_assign (by conv => lhs; whnf)) ?_
    refine WL.nil ?_
    refine WC.seq ?_
    refine WC.region ?_
    refine l_rd rfl rfl (x_move (by conv => lhs; whnf)) ?_
    refine l_st rfl (s_callL cal73 (c73 _) ?_)
    rintro r w ⟨hr1, e1⟩
    have H := H.ext e1
    by_cases h11 : 97 ≤ ((cc : Nat) : Int) ∧ ((cc : Nat) : Int) ≤ 122
    ·
      obtain rfl : r = .bool true := by rw [hr1, decide_eq_true h11]
      refine l_rd rfl rfl (x_not rfl) ?_
      refine l_rd rfl rfl (x_move (by conv => lhs; whnf)) ?_
      refine l_gn (wantN rfl rfl rfl) rfl ?_
      refine l_gn (wantN rfl rfl rfl) rfl ?_
      refine l_rd rfl rfl (x_pick0 rfl ev_c) ?_
      refine l_rd rfl rfl (x_move (by conv => lhs; whnf)) ?_
      refine l_gn (wantN rfl rfl rfl) rfl ?_
      refine l_gn (wantN rfl rfl rfl) rfl ?_
      refine l_gn (wantN rfl rfl rfl) rfl ?_
      refine l_gn (wantU rfl rfl rfl) rfl ?_
      refine l_gn (wantU rfl rfl rfl) rfl ?_
      refine l_gn (wantN rfl rfl rfl) rfl ?_
      refine l_rd rfl rfl (x_pick0 rfl ev_c) ?_
      refine WL.nil ?_
      refine WC.cond0 rfl ?_
      refine WC.skip ?_
      exfalso; omega
    ·
      obtain rfl : r = .bool false := by rw [hr1, decide_eq_false h11]
      refine l_rd rfl rfl (x_not rfl) ?_
      refine l_rd rfl rfl (x_move (by conv => lhs; whnf)) ?_
      refine l_gy (wantY rfl rfl rfl) rfl rfl (x_move (by conv => lhs; whnf)) ?_
      refine l_gyD (wantY rfl rfl rfl) rfl rfl (x_neq rfl rfl) (fun h15 => ?_) (fun h15 => ?_)
      ·
        refine l_rd rfl rfl (x_pick1 rfl (by conv => lhs; whnf)) ?_
        refine l_rd rfl rfl (x_move (by conv => lhs; whnf)) ?_
        refine l_gy (wantY rfl rfl rfl) rfl rfl (x_move (by conv => lhs; whnf)) ?_
        refine l_gyD (wantY rfl rfl rfl) rfl rfl (x_lss rfl rfl) (fun h19 => ?_) (fun h19 => ?_)
        ·
          refine l_gy (wantY rfl rfl rfl) rfl rfl (x_move (by conv => lhs; whnf)) ?_
          refine l_gn (wantN rfl rfl rfl) rfl ?_
          refine l_gn (wantN rfl rfl rfl) rfl ?_
          refine l_gy (wantY rfl rfl rfl) rfl rfl (x_pick1 rfl ev_c) ?_
          refine l_rd rfl rfl (x_pick1 rfl (by conv => lhs; whnf)) ?_
          refine WL.nil ?_
          refine WC.cond1 rfl ?_
          refine WC.seq ?_
          have hns : ¬ sgn ((x[p].toNat : Nat) : Int) := by unfold sgn; omega
          refine WC.region ?_
          refine l_rd rfl rfl (x_assign ev_c) ?_
          refine WL.nil ?_
          refine WC.ret ?_
          refine atRet ?_
          exact RetM.one (v := .bool false) rfl rfl ⟨by rw [decide_eq_false (fun h => hns (h.1 p hp))], H.below 1 rfl⟩
        ·
          refine l_gy (wantY rfl rfl rfl) rfl rfl (x_move (by conv => lhs; whnf)) ?_
          refine l_gy (wantY rfl rfl rfl) rfl rfl (x_move (by conv => lhs; whnf)) ?_
          refine l_gyD (wantY rfl rfl rfl) rfl rfl (x_gtr rfl rfl) (fun h22 => ?_) (fun h22 => ?_)
          ·
            refine l_gy (wantY rfl rfl rfl) rfl rfl (x_pick0 rfl (by conv => lhs; whnf)) ?_
            refine l_rd rfl rfl (x_pick1 rfl (by conv => lhs; whnf)) ?_
            refine WL.nil ?_
            refine WC.cond1 rfl ?_
            refine WC.seq ?_
            have hns : ¬ sgn ((x[p].toNat : Nat) : Int) := by unfold sgn; omega
            refine WC.region ?_
            refine l_rd rfl rfl (x_assign ev_c) ?_
            refine WL.nil ?_
            refine WC.ret ?_
            refine atRet ?_
            exact RetM.one (v := .bool false) rfl rfl ⟨by rw [decide_eq_false (fun h => hns (h.1 p hp))], H.below 1 rfl⟩
          ·
            refine l_gy (wantY rfl rfl rfl) rfl rfl (x_pick0 rfl (by conv => lhs; whnf)) ?_
            refine l_rd rfl rfl (x_pick1 rfl (by conv => lhs; whnf)) ?_
            refine WL.nil ?_
            refine WC.cond0 rfl ?_
            refine WC.skip ?_
            exfalso; omega
      ·
        refine l_rd rfl rfl (x_pick1 rfl (by conv => lhs; whnf)) ?_
        refine l_rd rfl rfl (x_move (by conv => lhs; whnf)) ?_
        refine l_gn (wantN rfl rfl rfl) rfl ?_
        refine l_gn (wantN rfl rfl rfl) rfl ?_
        refine l_gn (wantN rfl rfl rfl) rfl ?_
        refine l_gn (wantU rfl rfl rfl) rfl ?_
        refine l_gn (wantU rfl rfl rfl) rfl ?_
        refine l_gn (wantN rfl rfl rfl) rfl ?_
        refine l_rd rfl rfl (x_pick0 rfl ev_c) ?_
        refine WL.nil ?_
        refine WC.cond0 rfl ?_
        refine WC.skip ?_
        exfalso; omega
  ·
    refine l_rd rfl rfl (x_extract rfl rfl) ?_
    refine WL.nil ?_
    refine WC.seq ?_
    refine WC.cond0 rfl ?_
    refine WC.exit ?_
    refine WC.seq ?_
    refine WC.region ?_
    refine l_rd rfl rfl (x_move h0) ?_
    refine l_rdD rfl rfl (x_neqS rfl rfl) (fun h26 => ?_) (fun h26 => ?_)
    ·
      refine l_rd rfl rfl (x_move (by conv => lhs; whnf)) ?_
      refine l_gy (wantY rfl rfl rfl) rfl rfl (x_move h0) ?_
      refine l_gy (wantY rfl rfl rfl) rfl rfl (x_lenStr Try.underlying9 rfl rfl) ?_
      refine l_gyD (wantY rfl rfl rfl) rfl rfl (x_leq rfl rfl) (fun h30 => ?_) (fun h30 => ?_)
      ·
        refine l_rd rfl rfl (x_pick1 rfl (by conv => lhs; whnf)) ?_
        refine l_rd rfl rfl (x_assign (by conv => lhs; whnf)) ?_
        refine WL.nil ?_
        refine WC.ret ?_
        refine atRet ?_
        exact RetM.one (v := .bool true) rfl rfl ⟨by rw [decide_eq_true ⟨fun i hi => he i hi (by omega), ne_size h26, by omega⟩], H.below 1 rfl⟩
      ·
        refine l_rd rfl rfl (x_pick1 rfl (by conv => lhs; whnf)) ?_
        refine l_rd rfl rfl (x_assign (by conv => lhs; whnf)) ?_
        refine WL.nil ?_
        refine WC.ret ?_
        refine atRet ?_
        exact RetM.one (v := .bool false) rfl rfl ⟨by rw [decide_eq_false (fun h => by have := h.2; omega)], H.below 1 rfl⟩
    ·
      refine l_rd rfl rfl (x_move (by conv => lhs; whnf)) ?_
      refine l_gn (wantN rfl rfl rfl) rfl ?_
      refine l_gn (wantN rfl rfl rfl) rfl ?_
      refine l_gn (wantN rfl rfl rfl) rfl ?_
      refine l_rd rfl rfl (x_pick0 rfl ev_c) ?_
      refine l_rd rfl rfl (x_assign (by conv => lhs; whnf)) ?_
      refine WL.nil ?_
      refine WC.ret ?_
      refine atRet ?_
      exact RetM.one (v := .bool false) rfl rfl ⟨by rw [decide_eq_false (fun h => by have h1 := h.2; have h2 := size_ne (Classical.not_not.1 h26); omega)], H.below 1 rfl⟩

end Go.Proofs.Ytahdodijpmkddaa
