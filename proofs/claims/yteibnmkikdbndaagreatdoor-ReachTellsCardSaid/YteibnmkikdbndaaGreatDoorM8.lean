/-
  What functions of this seat do: contracts, proved by walks, and the plain laws that they need; each with the conditions that it names.
-/
import Derived.Test.YteibnmkikdbndaaGreatDoorM7
import Derived.Test.YteibnmkikdbndaaGreatDoorE3
import Derived.Test.YteibnmkikdbndaaGreatDoorRows
import Derived.Test.YteibnmkikdbndaaGreatDoorCards
import Derived.Test.YteibnmkikdbndaaGreatDoorTie
import Derived.Lib.LaidTab
import Derived.LaidMore
import Derived.Stop.Joined
import Derived.SevenTiedAt
set_option linter.unusedVariables false
set_option linter.unusedSimpArgs false
namespace Go.Proofs.YteibnmkikdbndaaGreatDoor
open Go Go.RowKit KE Go.Proofs
theorem ty37 : Ty Tryz.prog 37 (.agg #[(.int .i64 0), (.int .i64 0), (.string ⟨#[]⟩), (.string ⟨#[]⟩), (.string ⟨#[]⟩), (.int .i64 0), (.slice none 0 0)]) 7 96 := Ty.of (by kernel_rfl)
theorem cal29 : Cal Tryz.prog 29 := ⟨_, Tryz.func29, rfl, by decide⟩
theorem cal32 : Cal Tryz.prog 32 := ⟨_, Tryz.func32, rfl, by decide⟩
theorem s_asg {P : Program} {ρ : Nat → Value} {w : World} {K : Value → World → Prop} {d : Option Tmp} {ty : TypeId} {ps : String} {af : Array Edge} {g : Option (Nat × Bool)} {x : Operand} {v : Value} (hv : ev ρ x = v) (k : K v w) : St P ⟨d, .assign x, ty, ps, af, g⟩ ρ w K := by
  refine ⟨trivial, ?_⟩
  rw [x_assign hv]; exact k
/-- a deed: what, a number, an edge -/
structure De where
  k : Int
  m : Int
  e : Ed
abbrev deC (d : De) : List Value := [I d.k, I d.m, S d.e.src, S d.e.dst, S d.e.lab, I d.e.time, d.e.pv]
theorem deC_len (d : De) : (deC d).length = 7 := rfl
def DeOk (w : World) (d : De) : Prop := (∃ xs : List Pr, RdS w d.e.pv 4 prC xs ∧ ∀ p ∈ xs, p.key.size ≤ 140737488355328 ∧ p.text.size ≤ 140737488355328) ∧ d.e.src.size ≤ 140737488355328 ∧ d.e.dst.size ≤ 140737488355328 ∧ d.e.lab.size ≤ 140737488355328
theorem eq43n (w : World) (n : Nat) (a b a' b' : ByteArray) (c c' : Int) : (Op.equalIn (n + 2) 43 (.agg #[S a, S b, I c]) (.agg #[S a', S b', I c'])).run Tryz.prog w = .ok (decide (a = a') && (decide (b = b') && (decide (c = c') && true))) w :=
  EqF.run Tryz.underlying43 (by kernel_rfl) (.one (by decide) (part1 Tryz.underlying9 rfl rfl) (part1 Tryz.underlying9 rfl rfl) (eqIn_str Tryz.underlying9) (.one (by decide) (part1 Tryz.underlying9 rfl rfl) (part1 Tryz.underlying9 rfl rfl) (eqIn_str Tryz.underlying9) (.one (by decide) (part1 Tryz.underlying3 rfl rfl) (part1 Tryz.underlying3 rfl rfl) (eqIn_int Tryz.underlying3) .nil)))
theorem eq43 {w : World} {p q : Pc} : (Op.equal 43 (.agg (pcC p).toArray) (.agg (pcC q).toArray)).run Tryz.prog w = .ok (decide (p = q)) w := by
  refine (eq43n w 9998 p.src p.dst q.src q.dst p.time q.time).trans ?_
  congr 1
  obtain ⟨a, b, c⟩ := p; obtain ⟨a', b', c'⟩ := q
  simp only [Pc.mk.injEq, Bool.and_true, Bool.decide_and]
theorem c9 {s : Sy} [NoEx s] {L : List Hp} {g : KE.Sub} {ro mv f a mn ml : Nat} {n : Nn} {lk : Ln} {cut last : Int} {A : Gr} {em : Bool} {vs : List (ByteArray × Int)} {E : List Hq} (w : World) (hR : RI em A E cut last lk n vs) (hA : AuG g a A) (hEd : E.length ≤ 20) (H : Hd s w (pt ro (.cells #[.map (some mv), .pointer (some ⟨a, 0, none⟩), .pointer (some ⟨f, 0, none⟩)] 81 (0, 0)) :: Mp TS mv (vs.map (gval I)) :: pt f (.cells (foC a mn ml cut last).toArray 143 (0, 0)) :: Mp TSp mn (n.map (gval pI)) :: IM TS I n :: Mp TS ml (lk.map (gval pI)) :: IM TLk I lk :: fz g :: L)) : CC Tryz.prog 9 [.pointer (some ⟨ro, 0, none⟩)].toArray w (fun r w' => ∃ l : List Pc, Shw l (rT em A n vs) ∧ l.length ≤ 2000 ∧ Hd s w' (Sl r 43 3 l.length (l.flatMap pcC) :: pt ro (.cells #[.map (some mv), .pointer (some ⟨a, 0, none⟩), .pointer (some ⟨f, 0, none⟩)] 81 (0, 0)) :: Mp TS mv (vs.map (gval I)) :: pt f (.cells (foC a mn ml cut last).toArray 143 (0, 0)) :: Mp TSp mn (n.map (gval pI)) :: IM TS I n :: Mp TS ml (lk.map (gval pI)) :: IM TLk I lk :: fz g :: L)) := by
  refine CC.of (N := 17) Tryz.func9 rfl rfl rfl ?_
  refine WC.seq ?_
  refine WC.region ?_
  refine l_rd rfl rfl (x_assign ev_c) ?_
  refine WL.nil ?_
  refine WC.seq ?_
  refine WC.region ?_
  refine l_st rfl (s_alloc ty38 H fun b3 w H => ?_)
  refine WL.nil ?_
  refine WC.seq ?_
  refine WC.region ?_
  refine l_rd rfl rfl (x_move (by conv => lhs; whnf)) ?_
  refine l_st rfl (s_callL cal32 (c32 _ hR hA hEd (Hd.arrT [_, _, _, _, _, _, _, _, _] [1, 2, 3, 4, 5, 6, 7, 8, 0] (by decide) rfl H)) ?_)
  rintro _ w ⟨k3, k4, k5, tv, lv, tr, lo, rfl, hsh, hml, H⟩
  refine l_rd rfl rfl (x_assign (by conv => lhs; whnf)) ?_
  refine WL.nil ?_
  refine WC.seq ?_
  refine WC.seq ?_
  refine WC.region ?_
  refine l_rd rfl rfl (x_move (by conv => lhs; whnf)) ?_
  refine l_rd rfl rfl (x_eqlFN Tryz.underlying83 rfl) ?_
  refine WL.nil ?_
  refine WC.cond0 rfl ?_
  refine WC.skip ?_
  refine WC.seq ?_
  refine WC.seq ?_
  refine WC.region ?_
  refine l_rd rfl rfl (x_move (by conv => lhs; whnf)) ?_
  refine WL.nil ?_
  refine WC.block ?_
  have H := PX.mk (α := Value) (φ := fun _ => True) (A := fun v => [pt b3 (.cells #[v] 38 (0, 0)), Sl v 43 3 ([] : List Pc).length (([] : List Pc).flatMap pcC)]) (.slice none 0 0) trivial (Hd.arrT [_, _, _] [2, 0, 1] (by decide) rfl (Hd.nil (Hd.arrT [_, _, _, _, _, _, _, _] [0, 7, 1, 2, 3, 4, 5, 6] (by decide) rfl H) 43 3))
  refine WC.rangeFnA (P := Tryz.prog) (caps := [.pointer (some ⟨k4, 0, none⟩), .pointer (some ⟨k3, 0, none⟩), .pointer (some ⟨k5, 0, none⟩)]) (E := ePc) (ok := okZ (mrg em tr lo)) (fin := finZ (mrg em tr lo)) (A := _) (B := fun _ => KE.sep [pt ro (.cells #[.map (some mv), .pointer (some ⟨a, 0, none⟩), .pointer (some ⟨f, 0, none⟩)] 81 (0, 0)), fz g]) (I := fun pre => PX (α := Value) (fun _ => True) (fun v => [pt b3 (.cells #[v] 38 (0, 0)), Sl v 43 3 pre.length (pre.flatMap pcC)])) (X := fun _ _ => fun _ => False) rfl cal88 (by decide) (fun x vs h hv => by have : vs = _ := hv; rw [this]; rfl) (it88 (b3 := k3) (b4 := k4) (b5 := k5) (ro := ro) (mv := mv) (f := f) (tv := tv) (lv := lv) (tr := tr) (lo := lo) hR.hE hA hR.hem) H ?_ ?_ ?_
  ·
    intro l pre x vs w L' L2 hok hrec H
    obtain ⟨hh, _, hvs⟩ := H.fact_at 1 rfl
    have hvs : vs = [.agg (pcC x).toArray] := hvs
    subst hvs
    refine WC.region ?_
    refine l_st rfl (s_alloc ty43 H fun b5 w H => ?_)
    refine l_no (s_stA 0 rfl ty43 rfl (by conv => lhs; whnf) rfl rfl rfl H fun w H => ?_)
    refine WL.nil ?_
    refine ⟨⟨[_, _, _], H⟩, fun w2 hw2 => ?_⟩
    clear hrec
    have H := Hd.arrT [_, _, _] [1, 0] (by decide) rfl (hw2 [_, _, _] H)
    clear hw2
    obtain ⟨v0, -, H⟩ := PX.opn H
    obtain ⟨a0, c0, rfl⟩ := (H.sl 1 rfl).shape
    have hll := hok.len
    refine WC.block ?_
    refine WC.region ?_
    refine l_rd rfl rfl (x_load Tryz.underlying38 rfl rfl (H.cellL 0 rfl rfl)) ?_
    refine l_rd rfl rfl (x_loadF (vs := [_, _, _]) Tryz.underlying43 rfl ty43 rfl rfl (H.cellsL 2 rfl rfl)) ?_
    refine l_st rfl (s_build1A Tryz.underlying38 ty43 rfl (by decide) (by decide) (by conv => lhs; whnf) rfl H fun b14 w H => ?_)
    refine l_st rfl (s_append Tryz.underlying38 ty43 rfl (by decide) (by decide) rfl 2 rfl rfl rfl (H.sl 0 rfl) (by simp [Value.oneCell']) (by omega) H fun v15 w H => ?_)
    obtain ⟨a15, c15, rfl⟩ := (H.sl 2 rfl).shape
    refine l_no (s_st 1 rfl ty38 rfl (by conv => lhs; whnf) rfl rfl H fun w H => ?_)
    refine WL.nil ?_
    exact PX.mk _ trivial (by rw [len_snoc, List.flatMap_append]; exact Hd.arrT [_, _, _, _] [1, 2] (by decide) rfl H)
  ·
    intro w m xs hfin H
    obtain ⟨v0, -, H⟩ := PX.opn H
    obtain ⟨a0, c0, rfl⟩ := (H.sl 1 rfl).shape
    have hfin : xs = _ := hfin
    subst hfin
    refine WC.seq ?_
    refine WC.region ?_
    refine l_rd rfl rfl (x_load Tryz.underlying38 rfl rfl (H.cellL 0 rfl rfl)) ?_
    refine l_rd rfl rfl (x_assign (by conv => lhs; whnf)) ?_
    refine WL.nil ?_
    refine WC.ret ?_
    have H := Hd.unsep (A := [pt ro (.cells #[.map (some mv), .pointer (some ⟨a, 0, none⟩), .pointer (some ⟨f, 0, none⟩)] 81 (0, 0)), fz g]) (Hd.arrT [_, _, _, _, _, _, _, _, _, _] [2, 0, 1, 3, 4, 5, 6, 7, 8, 9] (by decide) rfl H)
    refine atRet ?_
    refine RetM.mark H (i := 4) rfl (fun w H => ?_)
    exact RetM.one rfl (by (conv => lhs; whnf); try rfl) (⟨_, hsh, hml, Hd.arrT [_, _, _, _, _, _, _, _, _, _, _] [3, 0, 5, 6, 7, 8, 9, 10, 1] (by decide) rfl H⟩)
  ·
    intro w m c pre x hok H
    obtain ⟨hh, _, hF⟩ := H.fact_at 0 rfl
    exact hF.elim
theorem c17 {a b c : ByteArray} {t : Int} (w : World) : CC Tryz.prog 17 [S a, S b, S c, I t].toArray w (fun r w' => r = .agg (edC ⟨a, c, b, t, .slice none 0 0⟩).toArray ∧ Ext w w') := by
  obtain ⟨w0, e0⟩ : ∃ w0, w0 = w := ⟨w, rfl⟩
  subst e0
  have H := Hd.start w0
  refine CC.of (N := 14) Tryz.func17 rfl rfl rfl ?_
  refine WC.seq ?_
  refine WC.region ?_
  refine l_st rfl (s_alloc ty35 H fun b8 w H => ?_)
  refine WL.nil ?_
  refine WC.seq ?_
  refine WC.region ?_
  refine l_rd rfl rfl (x_move (by conv => lhs; whnf)) ?_
  refine l_rd rfl rfl (x_move (by conv => lhs; whnf)) ?_
  refine l_rd rfl rfl (x_move (by conv => lhs; whnf)) ?_
  refine l_rd rfl rfl (x_move (by conv => lhs; whnf)) ?_
  refine l_rd rfl rfl (x_buildL (pl := [(0, 1), (1, 1), (2, 1), (3, 1), (4, 1)]) (cells := edC ⟨a, c, b, t, .slice none 0 0⟩) Tryz.underlying35 ty35 (by kernel_rfl) rfl) ?_
  refine l_no (s_stA 0 rfl ty35 rfl (by conv => lhs; whnf) rfl rfl rfl H fun w H => ?_)
  refine WL.nil ?_
  refine WC.ret ?_
  refine atRet ?_
  exact RetM.cell1A (vs := [_, _, _, _, _]) rfl (by (conv => lhs; whnf); try rfl) Tryz.underlying35 rfl ty35 rfl (H.cellsL 0 rfl rfl) (⟨rfl, H.below 1 rfl⟩)
theorem c28 {s : Sy} [NoEx s] {L : List Hp} {x : ByteArray} (w : World) (H : Hd s w L) : CC Tryz.prog 28 [S x].toArray w (fun r w' => ∃ b : Nat, r = .agg (etC (.mk 4 ⟨#[]⟩ (.slice (some ⟨b, 0, none⟩) 1 1) [.mk 1 x (.slice none 0 0) []])).toArray ∧ Hd s w' (Sl (.slice (some ⟨b, 0, none⟩) 1 1) 25 3 1 [I 1, S x, .slice none 0 0] :: L)) := by
  refine CC.of (N := 7) Tryz.func28 rfl rfl rfl ?_
  refine WC.seq ?_
  refine WC.region ?_
  refine l_st rfl (s_alloc ty25 H fun b2 w H => ?_)
  refine WL.nil ?_
  refine WC.seq ?_
  refine WC.region ?_
  refine l_rd rfl rfl (x_move (by conv => lhs; whnf)) ?_
  refine l_rd rfl rfl (x_buildL (pl := [(0, 1), (1, 1), (2, 1)]) (cells := [I 1, S x, .slice none 0 0]) Tryz.underlying25 ty25 (by kernel_rfl) rfl) ?_
  refine l_st rfl (s_build1A Tryz.underlying23 ty25 rfl (by decide) (by decide) (by conv => lhs; whnf) rfl H fun b5 w H => ?_)
  refine l_rd rfl rfl (x_buildL (pl := [(0, 1), (1, 1), (2, 1)]) (cells := [I 4, S ⟨#[]⟩, .slice (some ⟨b5, 0, none⟩) 1 1]) Tryz.underlying25 ty25 (by kernel_rfl) rfl) ?_
  refine l_no (s_stA 1 rfl ty25 rfl (by conv => lhs; whnf) rfl rfl rfl H fun w H => ?_)
  refine WL.nil ?_
  refine WC.ret ?_
  refine atRet ?_
  exact RetM.cell1A (vs := [_, _, _]) rfl (by (conv => lhs; whnf); try rfl) Tryz.underlying25 rfl ty25 rfl (H.cellsL 1 rfl rfl) (⟨b5, rfl, Hd.arrT [_, _] [0] (by decide) rfl H⟩)
theorem c29 : ∀ (N : Nat) {t : Et} (hN : SizeOf.sizeOf t < N) {b : Int} (hb : 0 ≤ b ∧ b ≤ 120) (w : World) (ht : EtR w t), CC Tryz.prog 29 [.agg (etC t).toArray, I b].toArray w (fun r w' => ∃ n : Int, r = I n ∧ 1 ≤ n ∧ n ≤ b + 1 ∧ Ext w w') := by
  intro N
  induction N
  · intro t hN; exact absurd hN (by omega)
  rename_i N ih
  intro t hN b hb w ht
  obtain ⟨w0, e0⟩ : ∃ w0, w0 = w := ⟨w, rfl⟩
  subst e0
  have H := Hd.start w0
  obtain ⟨ks, hks⟩ : ∃ ks, ks = t.ks := ⟨_, rfl⟩
  have hr : RdS w0 t.v 3 etC ks := hks ▸ ht.rd
  obtain ⟨a, c, hv⟩ := hr.shape
  have hle := hr.le
  have ih : ∀ (x : Et), SizeOf.sizeOf x < SizeOf.sizeOf t → ∀ {b : Int}, 0 ≤ b ∧ b ≤ 120 → ∀ (w : World), EtR w x → CC Tryz.prog 29 [.agg (etC x).toArray, I b].toArray w (fun r w' => ∃ n : Int, r = I n ∧ 1 ≤ n ∧ n ≤ b + 1 ∧ Ext w w') := fun x hx b hb w hw => ih (t := x) (by omega) hb w hw
  refine CC.of (N := 31) Tryz.func29 rfl rfl rfl ?_
  refine WC.seq ?_
  refine WC.region ?_
  refine l_st rfl (s_box (by conv => lhs; whnf) H fun b2 w H => ?_)
  refine l_rd rfl rfl (x_assign ev_c) ?_
  refine WL.nil ?_
  refine WC.seq ?_
  refine WC.region ?_
  refine l_rd rfl rfl (x_assign ev_c) ?_
  refine WL.nil ?_
  refine WC.seq ?_
  refine WC.seq ?_
  refine WC.region ?_
  refine l_rd rfl rfl (x_assign ev_c) ?_
  refine WL.nil ?_
  refine WC.block ?_
  refine WC.loop (fun ρ ds w => ∃ (k : Nat) (n : Int), k ≤ ks.length ∧ 1 ≤ n ∧ n ≤ b + 1 ∧ ρ 6 = I k ∧ ρ 5 = I n ∧ ρ 1 = I b ∧ ρ 2 = .pointer (some ⟨b2, 0, none⟩) ∧ ds = [] ∧ Hd (sy w0) w [pt b2 (.cells (etC t).toArray 25 (0, 0)), fr w0]) (fun ρ w => ks.length - (match ρ 6 with | .int _ k => k.toNat | _ => 0)) (⟨0, 1, Nat.zero_le _, by omega, by omega, rfl, rfl, rfl, rfl, rfl, H⟩) ?_
  repeat clear H
  rintro ρ ds w ⟨k, n, hk, hn1, hn2, h6, h5, h1, h2, rfl, H⟩
  refine WC.seq ?_
  refine WC.seq ?_
  refine WC.region ?_
  refine l_rd rfl rfl (x_move h6) ?_
  refine l_rd rfl rfl (x_fieldAddr (k := 2) Tryz.underlying25 rfl rfl ty23 (by decide) h2) ?_
  refine l_rd rfl rfl (x_load Tryz.underlying23 rfl rfl (H.cellL 0 rfl rfl)) ?_
  refine l_rd rfl rfl (x_lenSlice Tryz.underlying23 rfl hv) ?_
  refine l_rdD rfl rfl (x_lss rfl rfl) (fun h11 => ?_) (fun h11 => ?_)
  ·
    refine l_rd rfl rfl (x_move (by conv => lhs; whnf)) ?_
    refine l_gy (wantY rfl rfl rfl) rfl rfl (x_move h5) ?_
    refine l_gy (wantY rfl rfl rfl) rfl rfl (x_move h1) ?_
    refine l_gyD (wantY rfl rfl rfl) rfl rfl (x_leq rfl rfl) (fun h15 => ?_) (fun h15 => ?_)
    ·
      refine l_rd rfl rfl (x_pick1 rfl (by conv => lhs; whnf)) ?_
      refine WL.nil ?_
      refine WC.cond1 rfl ?_
      refine WC.skip ?_
      refine WC.seq ?_
      refine WC.block ?_
      obtain ⟨x, hxk⟩ := lt_get (show k < ks.length by omega)
      obtain ⟨b1, o1, rfl, hc1⟩ := (show RdS w0 (.slice a ks.length c) 3 etC ks from hv ▸ hr).el etC_len hxk
      have hmem : x ∈ t.ks := hks ▸ List.mem_of_getElem? hxk
      refine WC.region ?_
      refine l_rd rfl rfl (x_move h5) ?_
      refine l_rd rfl rfl (x_fieldAddr (k := 2) Tryz.underlying25 rfl rfl ty23 (by decide) h2) ?_
      refine l_rd rfl rfl (x_load Tryz.underlying23 rfl rfl (H.cellL 0 rfl rfl)) ?_
      refine l_rd rfl rfl (x_move h6) ?_
      refine l_rd rfl rfl (x_indexAddr Tryz.underlying23 ty25 hv rfl (by omega) (by omega)) ?_
      refine l_rd rfl rfl (x_loadF (vs := [_, _, _]) Tryz.underlying25 rfl ty25 rfl rfl (sub_row 0 (fun j u hj => (H.old 1 rfl).cell (hc1 j u hj)) rfl)) ?_
      refine l_rd rfl rfl (x_move h1) ?_
      refine l_rd rfl rfl (x_move h5) ?_
      refine l_rd rfl rfl (x_sub rfl rfl (by omega) (by omega)) ?_
      refine l_st rfl (s_callL cal29 (ih x (et_lt hmem) (b := b - n) (by omega) _ ((ht.kid hmem).old (H.old 1 rfl))) ?_)
      rintro _ w ⟨m, rfl, hm1, hm2, e1⟩
      have H := H.ext e1
      refine l_rd rfl rfl (x_add rfl rfl (by omega) (by omega)) ?_
      refine l_rd rfl rfl (x_assign (by conv => lhs; whnf)) ?_
      refine WL.nil ?_
      refine WC.region ?_
      refine l_rd rfl rfl (x_move h6) ?_
      refine l_rd rfl rfl (x_add rfl rfl (by omega) (by omega)) ?_
      refine l_rd rfl rfl (x_assign (by conv => lhs; whnf)) ?_
      refine WL.nil ?_
      refine WC.again (⟨k + 1, n + m, by omega, by omega, by omega, rfl, rfl, h1, h2, rfl, H⟩) (by show _ - _ < _ - _; rw [h6]; show ks.length - ((k : Int) + 1).toNat < ks.length - (k : Int).toNat; omega)
    ·
      refine l_rd rfl rfl (x_pick1 rfl (by conv => lhs; whnf)) ?_
      refine WL.nil ?_
      refine WC.cond0 rfl ?_
      refine WC.exit ?_
      refine WC.seq ?_
      refine WC.region ?_
      refine l_rd rfl rfl (x_move h5) ?_
      refine l_rd rfl rfl (x_assign (by conv => lhs; whnf)) ?_
      refine WL.nil ?_
      refine WC.ret ?_
      refine atRet ?_
      exact RetM.one rfl (by (conv => lhs; whnf); try rfl) (⟨n, rfl, hn1, hn2, H.below 1 rfl⟩)
  ·
    refine l_rd rfl rfl (x_move (by conv => lhs; whnf)) ?_
    refine l_gn (wantN rfl rfl rfl) rfl ?_
    refine l_gn (wantN rfl rfl rfl) rfl ?_
    refine l_gn (wantN rfl rfl rfl) rfl ?_
    refine l_rd rfl rfl (x_pick0 rfl ev_c) ?_
    refine WL.nil ?_
    refine WC.cond0 rfl ?_
    refine WC.exit ?_
    refine WC.seq ?_
    refine WC.region ?_
    refine l_rd rfl rfl (x_move h5) ?_
    refine l_rd rfl rfl (x_assign (by conv => lhs; whnf)) ?_
    refine WL.nil ?_
    refine WC.ret ?_
    refine atRet ?_
    exact RetM.one rfl (by (conv => lhs; whnf); try rfl) (⟨n, rfl, hn1, hn2, H.below 1 rfl⟩)
theorem c13 {v : Value} {l : List Pc} {p : Pc} (w : World) (hx : RdS w v 3 pcC l) : CC Tryz.prog 13 [v, .agg (pcC p).toArray].toArray w (fun r w' => r = .bool (decide (p ∈ l)) ∧ Ext w w') := by
  obtain ⟨w0, e0⟩ : ∃ w0, w0 = w := ⟨w, rfl⟩
  subst e0
  have H := Hd.start w0
  obtain ⟨a, c, rfl⟩ := hx.shape
  have hle := hx.le
  refine CC.of (N := 18) Tryz.func13 rfl rfl rfl ?_
  refine WC.seq ?_
  refine WC.region ?_
  refine l_st rfl (s_box (by conv => lhs; whnf) H fun b3 w H => ?_)
  refine l_rd rfl rfl (x_assign ev_c) ?_
  refine WL.nil ?_
  refine WC.seq ?_
  refine WC.seq ?_
  refine WC.region ?_
  refine l_rd rfl rfl (x_assign ev_c) ?_
  refine WL.nil ?_
  refine WC.block ?_
  refine WC.loop (fun ρ ds w => ∃ k : Nat, k ≤ l.length ∧ (∀ j x, j < k → l[j]? = some x → x ≠ p) ∧ ρ 5 = I k ∧ ρ 3 = .pointer (some ⟨b3, 0, none⟩) ∧ ρ 0 = .slice a l.length c ∧ ds = [] ∧ Hd (sy w0) w [pt b3 (.cells (pcC p).toArray 43 (0, 0)), fr w0]) (fun ρ w => l.length - (match ρ 5 with | .int _ k => k.toNat | _ => 0)) (⟨0, Nat.zero_le _, fun j x h => absurd h (by omega), rfl, rfl, rfl, rfl, H⟩) ?_
  repeat clear H
  rintro ρ ds w ⟨k, hk, hno, h5, h3, h0, rfl, H⟩
  refine WC.seq ?_
  refine WC.seq ?_
  refine WC.region ?_
  refine l_rd rfl rfl (x_move h5) ?_
  refine l_rd rfl rfl (x_move h0) ?_
  refine l_rd rfl rfl (x_lenSlice Tryz.underlying38 rfl rfl) ?_
  refine l_rdD rfl rfl (x_lss rfl rfl) (fun h9 => ?_) (fun h9 => ?_)
  ·
    refine WL.nil ?_
    refine WC.cond1 rfl ?_
    refine WC.skip ?_
    refine WC.seq ?_
    refine WC.block ?_
    refine WC.seq ?_
    obtain ⟨x, hxk⟩ := lt_get (show k < l.length by omega)
    obtain ⟨b1, o1, rfl, hc1⟩ := hx.el pcC_len hxk
    refine WC.draw mixed [] [[], [], [0, 1], [0, 1, 2], [], [0, 1, 2, 3, 4]] [0, 1, 2, 3, 4, 5] (by kernel_rfl) ?_
    have H := H.drew
    refine k_rd rfl rfl (RS.of rfl rfl (x_move h0)) ?_
    refine k_rd rfl rfl (RS.of rfl rfl (x_move h5)) ?_
    refine k_rd rfl rfl (RS.of rfl rfl (x_indexAddr Tryz.underlying38 ty43 rfl rfl (by omega) (by omega))) ?_
    refine k_rd rfl rfl (RS.of rfl rfl (x_loadF (vs := [_, _, _]) Tryz.underlying43 rfl ty43 rfl rfl (sub_row 0 (fun j u hj => (H.old 1 rfl).cell (hc1 j u hj)) rfl))) ?_
    refine k_rd rfl rfl (RS.of rfl rfl (x_loadF (vs := [_, _, _]) Tryz.underlying43 rfl ty43 h3 rfl (H.cellsL 0 rfl rfl))) ?_
    refine k_rdD rfl rfl rfl rfl (x_eqlA (by kernel_rfl) rfl rfl eq43) (fun h17 => ?_) (fun h17 => ?_)
    ·
      show _
      refine WC.cond1 rfl ?_
      refine WC.seq ?_
      refine WC.region ?_
      refine l_rd rfl rfl (x_assign ev_c) ?_
      refine WL.nil ?_
      refine WC.ret ?_
      refine atRet ?_
      exact RetM.one rfl (by (conv => lhs; whnf); try rfl) (⟨by rw [decide_eq_true (h17 ▸ List.mem_of_getElem? hxk)], H.below 1 rfl⟩)
    ·
      show _
      refine WC.cond0 rfl ?_
      refine WC.skip ?_
      refine WC.region ?_
      refine l_rd rfl rfl (x_move h5) ?_
      refine l_rd rfl rfl (x_add rfl rfl (by omega) (by omega)) ?_
      refine l_rd rfl rfl (x_assign (by conv => lhs; whnf)) ?_
      refine WL.nil ?_
      refine WC.again (⟨k + 1, by omega, fun j y hj hy => by rcases Nat.lt_succ_iff_lt_or_eq.1 hj with h | rfl; exact hno j y h hy; rw [hxk] at hy; cases hy; exact h17, rfl, h3, h0, rfl, H⟩) (by show _ - _ < _ - _; rw [h5]; show l.length - ((k : Int) + 1).toNat < l.length - (k : Int).toNat; omega)
  ·
    refine WL.nil ?_
    refine WC.cond0 rfl ?_
    refine WC.exit ?_
    refine WC.seq ?_
    refine WC.region ?_
    refine l_rd rfl rfl (x_assign ev_c) ?_
    refine WL.nil ?_
    refine WC.ret ?_
    refine atRet ?_
    exact RetM.one rfl (by (conv => lhs; whnf); try rfl) (⟨by rw [decide_eq_false (fun hm => by obtain ⟨j, hj, e⟩ := List.mem_iff_getElem.1 hm; exact hno j p (by omega) (by rw [List.getElem?_eq_getElem hj, e]) rfl)], H.below 1 rfl⟩)
theorem c7 {t : Et} {v : Value} {dd : List De} (w : World) (ht : EtR w t) (hx : RdS w v 7 deC dd) (hD : ∀ d ∈ dd, DeOk w d) : CC Tryz.prog 7 [.agg (etC t).toArray, v].toArray w (fun r w' => ∃ b, r = .bool b ∧ (b = false → dd.length ≤ 14) ∧ Ext w w') := by
  obtain ⟨w0, e0⟩ : ∃ w0, w0 = w := ⟨w, rfl⟩
  subst e0
  have H := Hd.start w0
  obtain ⟨a, c, rfl⟩ := hx.shape
  have hle := hx.le
  refine CC.of (N := 63) Tryz.func7 rfl rfl rfl ?_
  refine WC.seq ?_
  refine WC.region ?_
  refine l_st rfl (s_box (by conv => lhs; whnf) H fun b2 w H => ?_)
  refine l_rd rfl rfl (x_assign ev_c) ?_
  refine WL.nil ?_
  refine WC.seq ?_
  refine WC.region ?_
  refine l_rd rfl rfl (x_assign ev_c) ?_
  refine WL.nil ?_
  refine WC.seq ?_
  refine WC.seq ?_
  refine WC.region ?_
  refine l_rd rfl rfl (x_assign ev_c) ?_
  refine WL.nil ?_
  refine WC.block ?_
  refine WC.loop (fun ρ ds w => ∃ (k : Nat) (n : Int), k ≤ dd.length ∧ k ≤ 15 ∧ 0 ≤ n ∧ n ≤ k * 1000000000000000 ∧ ρ 6 = I k ∧ ρ 5 = I n ∧ ρ 1 = .slice a dd.length c ∧ ρ 2 = .pointer (some ⟨b2, 0, none⟩) ∧ ds = [] ∧ Hd (sy w0) w [pt b2 (.cells (etC t).toArray 25 (0, 0)), fr w0]) (fun ρ w => dd.length - (match ρ 6 with | .int _ k => k.toNat | _ => 0)) (⟨0, 0, Nat.zero_le _, by omega, by omega, by omega, rfl, rfl, rfl, rfl, rfl, H⟩) ?_
  repeat clear H
  rintro ρ ds w ⟨k, n, hk, hk15, hn1, hn2, h6, h5, h1, h2, rfl, H⟩
  refine WC.seq ?_
  refine WC.seq ?_
  refine WC.region ?_
  refine l_rd rfl rfl (x_move h6) ?_
  refine l_rd rfl rfl (x_move h1) ?_
  refine l_rd rfl rfl (x_lenSlice Tryz.underlying26 rfl rfl) ?_
  refine l_rdD rfl rfl (x_lss rfl rfl) (fun h10 => ?_) (fun h10 => ?_)
  ·
    refine l_rd rfl rfl (x_move (by conv => lhs; whnf)) ?_
    refine l_gy (wantY rfl rfl rfl) rfl rfl (x_move h6) ?_
    refine l_gyD (wantY rfl rfl rfl) rfl rfl (x_leq rfl rfl) (fun h13 => ?_) (fun h13 => ?_)
    ·
      refine l_rd rfl rfl (x_pick1 rfl (by conv => lhs; whnf)) ?_
      refine WL.nil ?_
      refine WC.cond1 rfl ?_
      refine WC.skip ?_
      refine WC.seq ?_
      refine WC.block ?_
      obtain ⟨d, hdk⟩ := lt_get (show k < dd.length by omega)
      obtain ⟨b1, o1, rfl, hc1⟩ := hx.el deC_len hdk
      obtain ⟨⟨xs, hxs, -⟩, hs1, hs2, hs3⟩ := hD d (List.mem_of_getElem? hdk)
      obtain ⟨ap, cp, hpv⟩ := hxs.shape
      have hpl := hxs.le
      refine WC.draw mixed [34] [[], [], [], [1, 2], [1, 2, 3], [1, 2, 3, 4], [1, 2, 3, 4, 5], [1, 2, 3, 4, 5, 6], [0, 1, 2, 3, 4, 5, 6, 7], [], [], [9, 10], [9, 10, 11], [9, 10, 11, 12], [9, 10, 11, 12, 13], [9, 10, 11, 12, 13, 14], [], [], [16, 17], [16, 17, 18], [16, 17, 18, 19], [16, 17, 18, 19, 20], [16, 17, 18, 19, 20, 21], [9, 10, 11, 12, 13, 14, 15, 16, 17, 18, 19, 20, 21, 22], [], [], [24, 25], [24, 25, 26], [24, 25, 26, 27], [24, 25, 26, 27, 28], [24, 25, 26, 27, 28, 29], [9, 10, 11, 12, 13, 14, 15, 16, 17, 18, 19, 20, 21, 22, 23, 24, 25, 26, 27, 28, 29, 30], [9, 10, 11, 12, 13, 14, 15, 16, 17, 18, 19, 20, 21, 22, 23, 24, 25, 26, 27, 28, 29, 30, 31], [0, 1, 2, 3, 4, 5, 6, 7, 8, 9, 10, 11, 12, 13, 14, 15, 16, 17, 18, 19, 20, 21, 22, 23, 24, 25, 26, 27, 28, 29, 30, 31, 32], [0, 1, 2, 3, 4, 5, 6, 7, 8, 9, 10, 11, 12, 13, 14, 15, 16, 17, 18, 19, 20, 21, 22, 23, 24, 25, 26, 27, 28, 29, 30, 31, 32, 33]] [0, 1, 2, 3, 4, 5, 6, 7, 8, 9, 10, 11, 12, 13, 14, 15, 16, 17, 18, 19, 20, 21, 22, 23, 24, 25, 26, 27, 28, 29, 30, 31, 32, 33, 34] (by kernel_rfl) ?_
      have H := H.drew
      refine k_rd rfl rfl (RS.of rfl rfl (x_move h5)) ?_
      refine k_rd rfl rfl (RS.of rfl rfl (x_move h1)) ?_
      refine k_rd rfl rfl (RS.of rfl rfl (x_move h6)) ?_
      refine k_rd rfl rfl (RS.of rfl rfl (x_indexAddr Tryz.underlying26 ty37 rfl rfl (by omega) (by omega))) ?_
      refine k_rd rfl rfl (RS.of rfl rfl (x_fieldAddr (k := 2) Tryz.underlying37 rfl rfl ty35 (by decide) rfl)) ?_
      refine k_rd rfl rfl (RS.of rfl rfl (x_fieldAddr (k := 4) Tryz.underlying35 rfl rfl ty33 (by decide) rfl)) ?_
      refine k_rd rfl rfl (RS.of rfl rfl (x_load Tryz.underlying33 rfl rfl ((fun j u hj => (H.old 1 rfl).cell (hc1 j u hj)) 6 _ rfl))) ?_
      refine k_rd rfl rfl (RS.of rfl rfl (x_lenSlice Tryz.underlying33 rfl hpv)) ?_
      refine k_rd rfl rfl (RS.of rfl rfl (x_add rfl rfl (by omega) (by omega))) ?_
      refine k_rd rfl rfl (RS.of rfl rfl (x_move h1)) ?_
      refine k_rd rfl rfl (RS.of rfl rfl (x_move h6)) ?_
      refine k_rd rfl rfl (RS.of rfl rfl (x_indexAddr Tryz.underlying26 ty37 rfl rfl (by omega) (by omega))) ?_
      refine k_rd rfl rfl (RS.of rfl rfl (x_fieldAddr (k := 2) Tryz.underlying37 rfl rfl ty35 (by decide) rfl)) ?_
      refine k_rd rfl rfl (RS.of rfl rfl (x_fieldAddr (k := 0) Tryz.underlying35 rfl rfl ty9 (by decide) rfl)) ?_
      refine k_rd rfl rfl (RS.of rfl rfl (x_load Tryz.underlying9 rfl rfl ((fun j u hj => (H.old 1 rfl).cell (hc1 j u hj)) 2 _ rfl))) ?_
      refine k_rd rfl rfl (RS.of rfl rfl (x_lenStr Tryz.underlying9 rfl rfl)) ?_
      refine k_rd rfl rfl (RS.of rfl rfl (x_move h1)) ?_
      refine k_rd rfl rfl (RS.of rfl rfl (x_move h6)) ?_
      refine k_rd rfl rfl (RS.of rfl rfl (x_indexAddr Tryz.underlying26 ty37 rfl rfl (by omega) (by omega))) ?_
      refine k_rd rfl rfl (RS.of rfl rfl (x_fieldAddr (k := 2) Tryz.underlying37 rfl rfl ty35 (by decide) rfl)) ?_
      refine k_rd rfl rfl (RS.of rfl rfl (x_fieldAddr (k := 1) Tryz.underlying35 rfl rfl ty9 (by decide) rfl)) ?_
      refine k_rd rfl rfl (RS.of rfl rfl (x_load Tryz.underlying9 rfl rfl ((fun j u hj => (H.old 1 rfl).cell (hc1 j u hj)) 3 _ rfl))) ?_
      refine k_rd rfl rfl (RS.of rfl rfl (x_lenStr Tryz.underlying9 rfl rfl)) ?_
      refine k_rd rfl rfl (RS.of rfl rfl (x_add rfl rfl (by omega) (by omega))) ?_
      refine k_rd rfl rfl (RS.of rfl rfl (x_move h1)) ?_
      refine k_rd rfl rfl (RS.of rfl rfl (x_move h6)) ?_
      refine k_rd rfl rfl (RS.of rfl rfl (x_indexAddr Tryz.underlying26 ty37 rfl rfl (by omega) (by omega))) ?_
      refine k_rd rfl rfl (RS.of rfl rfl (x_fieldAddr (k := 2) Tryz.underlying37 rfl rfl ty35 (by decide) rfl)) ?_
      refine k_rd rfl rfl (RS.of rfl rfl (x_fieldAddr (k := 2) Tryz.underlying35 rfl rfl ty9 (by decide) rfl)) ?_
      refine k_rd rfl rfl (RS.of rfl rfl (x_load Tryz.underlying9 rfl rfl ((fun j u hj => (H.old 1 rfl).cell (hc1 j u hj)) 4 _ rfl))) ?_
      refine k_rd rfl rfl (RS.of rfl rfl (x_lenStr Tryz.underlying9 rfl rfl)) ?_
      refine k_rd rfl rfl (RS.of rfl rfl (x_add rfl rfl (by omega) (by omega))) ?_
      refine k_rd rfl rfl (RS.of rfl rfl (x_quo rfl rfl (by omega) (by omega) (by omega))) ?_
      refine k_rd rfl rfl (RS.of rfl rfl (x_add rfl rfl (by omega) (by omega))) ?_
      refine k_st rfl rfl rfl (s_asg rfl ⟨⟨trivial, ⟨trivial, ⟨trivial, ⟨trivial, ⟨trivial, ⟨trivial, ⟨trivial, ⟨trivial, ⟨trivial, ⟨trivial, ⟨trivial, ⟨trivial, ⟨trivial, ⟨trivial, ⟨trivial, ⟨trivial, ⟨trivial, ⟨trivial, ⟨trivial, ⟨trivial, ⟨trivial, ⟨trivial, ⟨trivial, ⟨trivial, ⟨trivial, ⟨trivial, ⟨trivial, ⟨trivial, ⟨trivial, ⟨trivial, ⟨trivial, ⟨trivial, ⟨trivial, ⟨trivial, trivial⟩⟩⟩⟩⟩⟩⟩⟩⟩⟩⟩⟩⟩⟩⟩⟩⟩⟩⟩⟩⟩⟩⟩⟩⟩⟩⟩⟩⟩⟩⟩⟩⟩⟩, ?_⟩)
      show _
      refine WC.region ?_
      refine l_rd rfl rfl (x_move h6) ?_
      refine l_rd rfl rfl (x_add rfl rfl (by omega) (by omega)) ?_
      refine l_rd rfl rfl (x_assign (by conv => lhs; whnf)) ?_
      refine WL.nil ?_
      refine WC.again (⟨k + 1, _, by omega, by omega, by omega, by omega, rfl, rfl, h1, h2, rfl, H⟩) (by show _ - _ < _ - _; rw [h6]; show dd.length - ((k : Int) + 1).toNat < dd.length - (k : Int).toNat; omega)
    ·
      refine l_rd rfl rfl (x_pick1 rfl (by conv => lhs; whnf)) ?_
      refine WL.nil ?_
      refine WC.cond0 rfl ?_
      refine WC.exit ?_
      refine WC.seq ?_
      refine WC.region ?_
      refine l_rd rfl rfl (x_loadF (vs := [_, _, _]) Tryz.underlying25 rfl ty25 h2 rfl (H.cellsL 0 rfl rfl)) ?_
      refine l_st rfl (s_callL cal29 (c29 _ (Nat.lt_succ_self _) (b := 120) (by decide) _ (ht.old (H.old 1 rfl))) ?_)
      rintro _ w ⟨m, rfl, hm1, hm2, e1⟩
      have H := H.ext e1
      refine l_rdD rfl rfl (x_gtr rfl rfl) (fun h53 => ?_) (fun h53 => ?_)
      ·
        refine l_rd rfl rfl (x_move (by conv => lhs; whnf)) ?_
        refine l_gn (wantN rfl rfl rfl) rfl ?_
        refine l_gn (wantN rfl rfl rfl) rfl ?_
        refine l_gn (wantN rfl rfl rfl) rfl ?_
        refine l_rd rfl rfl (x_pick1 rfl ev_c) ?_
        refine l_rd rfl rfl (x_move (by conv => lhs; whnf)) ?_
        refine l_gn (wantN rfl rfl rfl) rfl ?_
        refine l_gn (wantN rfl rfl rfl) rfl ?_
        refine l_rd rfl rfl (x_pick1 rfl ev_c) ?_
        refine l_rd rfl rfl (x_assign (by conv => lhs; whnf)) ?_
        refine WL.nil ?_
        refine WC.ret ?_
        refine atRet ?_
        exact RetM.one rfl (by (conv => lhs; whnf); try rfl) (⟨_, rfl, fun h => by first | (cases h; done) | omega, H.below 1 rfl⟩)
      ·
        refine l_rd rfl rfl (x_move (by conv => lhs; whnf)) ?_
        refine l_gy (wantY rfl rfl rfl) rfl rfl (x_move h1) ?_
        refine l_gy (wantY rfl rfl rfl) rfl rfl (x_lenSlice Tryz.underlying26 rfl rfl) ?_
        refine l_gyD (wantY rfl rfl rfl) rfl rfl (x_gtr rfl rfl) (fun h57 => ?_) (fun h57 => ?_)
        ·
          refine l_rd rfl rfl (x_pick0 rfl (by conv => lhs; whnf)) ?_
          refine l_rd rfl rfl (x_move (by conv => lhs; whnf)) ?_
          refine l_gn (wantN rfl rfl rfl) rfl ?_
          refine l_gn (wantN rfl rfl rfl) rfl ?_
          refine l_rd rfl rfl (x_pick1 rfl ev_c) ?_
          refine l_rd rfl rfl (x_assign (by conv => lhs; whnf)) ?_
          refine WL.nil ?_
          refine WC.ret ?_
          refine atRet ?_
          exact RetM.one rfl (by (conv => lhs; whnf); try rfl) (⟨_, rfl, fun h => by first | (cases h; done) | omega, H.below 1 rfl⟩)
        ·
          refine l_rd rfl rfl (x_pick0 rfl (by conv => lhs; whnf)) ?_
          refine l_rd rfl rfl (x_move (by conv => lhs; whnf)) ?_
          refine l_gy (wantY rfl rfl rfl) rfl rfl (x_move h5) ?_
          refine l_gyD (wantY rfl rfl rfl) rfl rfl (x_gtr rfl rfl) (fun h61 => ?_) (fun h61 => ?_)
          ·
            refine l_rd rfl rfl (x_pick0 rfl (by conv => lhs; whnf)) ?_
            refine l_rd rfl rfl (x_assign (by conv => lhs; whnf)) ?_
            refine WL.nil ?_
            refine WC.ret ?_
            refine atRet ?_
            exact RetM.one rfl (by (conv => lhs; whnf); try rfl) (⟨_, rfl, fun h => by first | (cases h; done) | omega, H.below 1 rfl⟩)
          ·
            refine l_rd rfl rfl (x_pick0 rfl (by conv => lhs; whnf)) ?_
            refine l_rd rfl rfl (x_assign (by conv => lhs; whnf)) ?_
            refine WL.nil ?_
            refine WC.ret ?_
            refine atRet ?_
            exact RetM.one rfl (by (conv => lhs; whnf); try rfl) (⟨_, rfl, fun h => by first | (cases h; done) | omega, H.below 1 rfl⟩)
  ·
    refine l_rd rfl rfl (x_move (by conv => lhs; whnf)) ?_
    refine l_gn (wantN rfl rfl rfl) rfl ?_
    refine l_gn (wantN rfl rfl rfl) rfl ?_
    refine l_rd rfl rfl (x_pick0 rfl ev_c) ?_
    refine WL.nil ?_
    refine WC.cond0 rfl ?_
    refine WC.exit ?_
    refine WC.seq ?_
    refine WC.region ?_
    refine l_rd rfl rfl (x_loadF (vs := [_, _, _]) Tryz.underlying25 rfl ty25 h2 rfl (H.cellsL 0 rfl rfl)) ?_
    refine l_st rfl (s_callL cal29 (c29 _ (Nat.lt_succ_self _) (b := 120) (by decide) _ (ht.old (H.old 1 rfl))) ?_)
    rintro _ w ⟨m, rfl, hm1, hm2, e1⟩
    have H := H.ext e1
    refine l_rdD rfl rfl (x_gtr rfl rfl) (fun h53 => ?_) (fun h53 => ?_)
    ·
      refine l_rd rfl rfl (x_move (by conv => lhs; whnf)) ?_
      refine l_gn (wantN rfl rfl rfl) rfl ?_
      refine l_gn (wantN rfl rfl rfl) rfl ?_
      refine l_gn (wantN rfl rfl rfl) rfl ?_
      refine l_rd rfl rfl (x_pick1 rfl ev_c) ?_
      refine l_rd rfl rfl (x_move (by conv => lhs; whnf)) ?_
      refine l_gn (wantN rfl rfl rfl) rfl ?_
      refine l_gn (wantN rfl rfl rfl) rfl ?_
      refine l_rd rfl rfl (x_pick1 rfl ev_c) ?_
      refine l_rd rfl rfl (x_assign (by conv => lhs; whnf)) ?_
      refine WL.nil ?_
      refine WC.ret ?_
      refine atRet ?_
      exact RetM.one rfl (by (conv => lhs; whnf); try rfl) (⟨_, rfl, fun h => by first | (cases h; done) | omega, H.below 1 rfl⟩)
    ·
      refine l_rd rfl rfl (x_move (by conv => lhs; whnf)) ?_
      refine l_gy (wantY rfl rfl rfl) rfl rfl (x_move h1) ?_
      refine l_gy (wantY rfl rfl rfl) rfl rfl (x_lenSlice Tryz.underlying26 rfl rfl) ?_
      refine l_gyD (wantY rfl rfl rfl) rfl rfl (x_gtr rfl rfl) (fun h57 => ?_) (fun h57 => ?_)
      ·
        refine l_rd rfl rfl (x_pick0 rfl (by conv => lhs; whnf)) ?_
        refine l_rd rfl rfl (x_move (by conv => lhs; whnf)) ?_
        refine l_gn (wantN rfl rfl rfl) rfl ?_
        refine l_gn (wantN rfl rfl rfl) rfl ?_
        refine l_rd rfl rfl (x_pick1 rfl ev_c) ?_
        refine l_rd rfl rfl (x_assign (by conv => lhs; whnf)) ?_
        refine WL.nil ?_
        refine WC.ret ?_
        refine atRet ?_
        exact RetM.one rfl (by (conv => lhs; whnf); try rfl) (⟨_, rfl, fun h => by first | (cases h; done) | omega, H.below 1 rfl⟩)
      ·
        refine l_rd rfl rfl (x_pick0 rfl (by conv => lhs; whnf)) ?_
        refine l_rd rfl rfl (x_move (by conv => lhs; whnf)) ?_
        refine l_gy (wantY rfl rfl rfl) rfl rfl (x_move h5) ?_
        refine l_gyD (wantY rfl rfl rfl) rfl rfl (x_gtr rfl rfl) (fun h61 => ?_) (fun h61 => ?_)
        ·
          refine l_rd rfl rfl (x_pick0 rfl (by conv => lhs; whnf)) ?_
          refine l_rd rfl rfl (x_assign (by conv => lhs; whnf)) ?_
          refine WL.nil ?_
          refine WC.ret ?_
          refine atRet ?_
          exact RetM.one rfl (by (conv => lhs; whnf); try rfl) (⟨_, rfl, fun h => by first | (cases h; done) | omega, H.below 1 rfl⟩)
        ·
          refine l_rd rfl rfl (x_pick0 rfl (by conv => lhs; whnf)) ?_
          refine l_rd rfl rfl (x_assign (by conv => lhs; whnf)) ?_
          refine WL.nil ?_
          refine WC.ret ?_
          refine atRet ?_
          exact RetM.one rfl (by (conv => lhs; whnf); try rfl) (⟨_, rfl, fun h => by first | (cases h; done) | omega, H.below 1 rfl⟩)
abbrev xB : ByteArray := ⟨#[120]⟩
abbrev kidT : Et := .mk 1 xB (.slice none 0 0) []
def starT (v : Value) : Et := .mk 4 ⟨#[]⟩ v [kidT]
theorem star_parts (v : Value) : parts (starT v) = [starT v, kidT] := by
  unfold starT
  simp [parts, partsL]
theorem star_sgn : sgn (((xB[0]'(by decide)).toNat : Nat) : Int) := by
  show sgn 120
  unfold sgn
  decide
theorem star_right (v : Value) : rightT (starT v) := by
  refine ⟨by rw [star_parts]; exact (by decide : (2 : Nat) ≤ 24), fun p hp => ?_⟩
  rw [star_parts] at hp
  rcases List.mem_cons.1 hp with rfl | hp
  · unfold okT okP starT Et.k Et.l Et.ks
    simp
  · have := List.mem_singleton.1 hp
    subst this
    unfold okT okP Et.k Et.l Et.ks
    simp only [if_true]
    refine ⟨rfl, ⟨fun i h => ?_, by decide, by decide⟩, ⟨by decide, by decide, by decide⟩, by decide⟩
    have h : i < 1 := h
    obtain rfl : i = 0 := by omega
    exact star_sgn
theorem star_labs (v : Value) : labsT (starT v) = [xB] := by
  unfold labsT
  rw [if_pos (star_right v), star_parts]
  show compS (sortS [xB]) = [xB]
  have h1 : sortS [xB] = [xB] := by
    unfold sortS
    simp [unl, ul]
  rw [h1]
  unfold compS
  show (Lib.compact [[120]]).map unl = _
  have h2 : Lib.compact [([120] : List UInt8)] = [[120]] := by decide
  rw [h2]; rfl
theorem bits2 : bitsF 2 = [1] := by
  rw [bitsF_pos (by decide)]
  have : (2 &&& (2 - 1)) = 0 := by decide
  rw [this, bitsF_0]; rfl
theorem bits1 : bitsF 1 = [0] := by
  rw [bitsF_pos (by decide)]
  have : (1 &&& (1 - 1)) = 0 := by decide
  rw [this, bitsF_0]; rfl
theorem star_part (v : Value) : partF (starT v) ([], List.replicate 25 0) = (([xB], (List.replicate 25 0).set 1 2), 2, 2) := by
  unfold starT
  simp only [partF, kidsF]
  simp [linkL, ofF, bits2]
theorem star_nfa (v : Value) : nfaT (starT v) = (([xB], ((List.replicate 25 0).set 1 2).set 0 2), 2) := by
  unfold nfaT
  rw [star_part]
theorem star_step0 : stepN ([xB], ((List.replicate 25 0).set 1 2).set 0 2) [0] xB = [1] := by
  unfold stepN stepF
  have h1 : setF [xB].length [0] = 1 := by decide
  show bitsF (andS [xB] xB (bitsF (orS (bitsF (setF [xB].length [0])) _)) (orS (bitsF (setF [xB].length [0])) _)) = _
  rw [h1, bits1]
  have h2 : orS [0] (((List.replicate 25 0).set 1 2).set 0 2) = 2 := by decide
  rw [h2, bits2]
  have h3 : andS [xB] xB [1] 2 = 2 := by decide
  rw [h3, bits2]
theorem star_step1 : stepN ([xB], ((List.replicate 25 0).set 1 2).set 0 2) [1] xB = [1] := by
  unfold stepN stepF
  have h1 : setF [xB].length [1] = 2 := by decide
  show bitsF (andS [xB] xB (bitsF (orS (bitsF (setF [xB].length [1])) _)) (orS (bitsF (setF [xB].length [1])) _)) = _
  rw [h1, bits2]
  have h2 : orS [1] (((List.replicate 25 0).set 1 2).set 0 2) = 2 := by decide
  rw [h2, bits2]
  have h3 : andS [xB] xB [1] 2 = 2 := by decide
  rw [h3, bits2]
theorem star_emp (v : Value) : emptyE (starT v) = true := by
  unfold emptyE
  rw [decide_eq_true (star_right v), emptyT_eq]
  simp [starT, Et.k]
theorem key_1 (u : Nat) (h : u < 10) : keyL [u] = [UInt8.ofNat (48 + u), 32] := by
  show (Lib.itoa (u : Int) ++ [32]) ++ [] = _
  rw [itoa_nat, Lib.decDigits, dif_pos h]; rfl
theorem key01 : keyS [1] ≠ keyS [0] := by
  intro h
  have h2 := congrArg (fun b : ByteArray => b.data.toList) h
  have h3 : keyL [1] = keyL [0] := by simpa [keyS] using h2
  rw [key_1 1 (by decide), key_1 0 (by decide)] at h3
  exact absurd h3 (by decide)
theorem star_sets (v : Value) : setsF (stepN (nfaT (starT v)).1) (labsT (starT v)) (finN (nfaT (starT v)).2 (emptyE (starT v))) = some ⟨[[(xB, 1)], [(xB, 1)]], [true, true]⟩ := by
  rw [star_nfa, star_labs, star_emp]
  generalize hst : stepN ([xB], ((List.replicate 25 0).set 1 2).set 0 2) = stp
  have h0 : stp [0] xB = [1] := by rw [← hst]; exact star_step0
  have h1 : stp [1] xB = [1] := by rw [← hst]; exact star_step1
  have e0 : setsL stp [0] [xB] [[0]] = ([[0], [1]], [(xB, 1)]) := by
    show setsS stp [0] ([[0]], []) xB = _
    unfold setsS
    rw [h0]
    simp [knownF, glook, key01, gset]
  have e1 : setsL stp [1] [xB] [[0], [1]] = ([[0], [1]], [(xB, 1)]) := by
    show setsS stp [1] ([[0], [1]], []) xB = _
    unfold setsS
    rw [h1]
    simp [knownF, glook, key01, gset]
  have f0 : finN 2 true 0 [0] = true := by unfold finN; rfl
  have f1 : finN 2 true 1 [1] = true := by unfold finN; rw [bits2]; rfl
  unfold setsF
  show setsGo stp [xB] (finN 2 true) (255 + 1 + 1 + 1) 0 [[0]] ⟨[], []⟩ = _
  rw [setsGo]
  simp only [List.getElem?_cons_zero, e0]
  rw [if_neg (by decide), setsGo]
  simp only [List.getElem?_cons_succ, List.getElem?_cons_zero, e1]
  rw [if_neg (by decide), setsGo]
  simp [f0, f1]
theorem star_parts2 : partsF ⟨[[(xB, 1)], [(xB, 1)]], [true, true]⟩ = [0, 0] := by
  have r : ∀ q : Nat, refF [q, q] [[(xB, 1)], [(xB, 1)]] = ([(rowKey [q, q] q [(xB, 1)], 0)], [0, 0]) := fun q => by
    show List.foldl (refS [q, q]) ([], []) [([(xB, 1)], q), ([(xB, 1)], q)] = _
    simp [refS, glook, gset]
  unfold partsF
  show partsGo [[(xB, 1)], [(xB, 1)]] (1 + 1 + 1) [1, 1] 0 = _
  rw [partsGo, r]
  simp only [List.length_cons, List.length_nil]
  rw [if_neg (by decide), partsGo, r]
  simp
theorem star_least : leastF ⟨[[(xB, 1)], [(xB, 1)]], [true, true]⟩ = ⟨[[(xB, 0)]], [true]⟩ := by
  unfold leastF
  rw [star_parts2]
  rfl
theorem star_dfa (v : Value) : dfaF (starT v) = some ⟨[[(xB, 0)]], [true]⟩ := by
  unfold dfaF
  rw [star_sets]
  simp only [Option.bind_some, star_least]
  rw [if_neg (by decide)]
/-! ### awake: what its two edges tell -/
abbrev n1B : ByteArray := ⟨#[49]⟩
abbrev n2B : ByteArray := ⟨#[50]⟩
abbrev n3B : ByteArray := ⟨#[51]⟩
abbrev yB : ByteArray := ⟨#[121]⟩
def A0 : Gr := ⟨[[(xB, 0)]], [true]⟩
theorem vtx_one (b : UInt8) (h : sgn ((b.toNat : Nat) : Int)) : vtx ⟨#[b]⟩ := by
  refine ⟨fun i hi => ?_, (by decide : (1 : Nat) ≤ 1), (by decide : (1 : Nat) ≤ 20)⟩
  have hi : i < 1 := hi
  obtain rfl : i = 0 := by omega
  exact h
theorem chk1 : chk n1B n2B yB 5 [] = 0 := by
  unfold chk
  rw [if_pos, if_pos (by decide)]
  refine ⟨vtx_one _ (by decide), vtx_one _ (by decide), ⟨vtx_one _ (by decide), ⟨by decide, by decide, by decide⟩, by decide⟩, trivial, by decide⟩
theorem chk2 : chk n2B n3B xB 7 [] = 0 := by
  unfold chk
  rw [if_pos, if_pos (by decide)]
  refine ⟨vtx_one _ (by decide), vtx_one _ (by decide), ⟨vtx_one _ (by decide), ⟨by decide, by decide, by decide⟩, by decide⟩, trivial, by decide⟩
theorem A0_step {s : Nat} {lab : ByteArray} {s' : Nat} (h : stepA A0 s lab = some s') : s = 0 ∧ lab = xB ∧ s' = 0 := by
  unfold stepA A0 at h
  match s, h with
  | 0, h =>
    have h : glook lab [(xB, 0)] = some s' := h
    simp only [glook] at h
    split at h
    · rename_i e; cases h; exact ⟨rfl, e, rfl⟩
    · cases h
  | s + 1, h => cases h
theorem A0_takes {s : Nat} (h : takesA A0 s = true) : s = 0 := by
  unfold takesA A0 at h
  match s, h with
  | 0, _ => rfl
  | s + 1, h => cases h
section
variable {n : Nn} {lk : Ln} {vs vs' : List (ByteArray × Int)} {E : List Hq} {cut last : Int} {out : List Pc}
theorem mx5 {o : Option Int} (h : o = none) (t : Int) : mxT o t = t := by rw [h]; rfl
theorem vs1_look (hM : MtI [] 5 [n1B, n2B] vs out) (q : ByteArray) (t : Int) : glook q vs = some t ↔ (q = n1B ∧ t = 5) ∨ (q = n2B ∧ t = 5) := by
  by_cases h : q ∈ [n1B, n2B]
  · rw [hM.lk1 q h]
    have : mxT (glook q []) 5 = 5 := rfl
    rw [this]
    simp only [List.mem_cons, List.not_mem_nil, or_false] at h
    constructor
    · intro e; cases e
      rcases h with h | h
      · exact .inl ⟨h, rfl⟩
      · exact .inr ⟨h, rfl⟩
    · rintro (⟨_, rfl⟩ | ⟨_, rfl⟩) <;> rfl
  · rw [hM.lk0 q h]
    simp only [List.mem_cons, List.not_mem_nil, or_false, not_or] at h
    simp [glook, h.1, h.2]
theorem aw1 (hR : RI true A0 E cut last lk n vs) (hl : ∀ v to lab, lnkT lk v to lab = if (v, to, lab) = (n1B, n2B, yB) then some 5 else lnkT [] v to lab) (hM : MtI [] 5 [n1B, n2B] vs out) (p : Pq) (t : Int) : rT true A0 n vs p = some t ↔ (p = (n1B, n1B) ∧ t = 5) ∨ (p = (n2B, n2B) ∧ t = 5) := by
  have hD : ∀ {r v s t}, Dv A0 lk r v s t → False := by
    intro r v s t d
    have key : ∀ v to lab u, lnkT lk v to lab = some u → lab = yB := fun v to lab u h => by
      rw [hl] at h
      split at h
      · rename_i e; simp only [Prod.mk.injEq] at e; exact e.2.2
      · cases h
    cases d with
    | base h k => have := (A0_step k).2.1; rw [key _ _ _ _ h] at this; exact absurd this (by decide)
    | step d h k => have := (A0_step k).2.1; rw [key _ _ _ _ h] at this; exact absurd this (by decide)
  have hT : ∀ p t, tree A0 n p ≠ some t := fun p t h => by
    obtain ⟨⟨s, τ, _, h2⟩, _⟩ := tree_some.1 h
    obtain ⟨t', _, d⟩ := hR.cl.snd _ _ _ _ h2
    exact hD d
  obtain ⟨p1, p2⟩ := p
  unfold rT besT
  by_cases e : p1 = p2
  · subst e
    rw [if_pos ⟨rfl, rfl⟩]
    unfold loopT
    rw [if_pos rfl, vs1_look hM]
    simp
  · rw [if_neg (fun h => e h.2)]
    constructor
    · intro h; exact absurd h (hT _ _)
    · rintro (⟨h, _⟩ | ⟨h, _⟩) <;> (cases h; exact absurd rfl e)
theorem vs2_look (h1 : ∀ q t, glook q vs = some t ↔ (q = n1B ∧ t = 5) ∨ (q = n2B ∧ t = 5)) (hM : MtI vs 7 [n2B, n3B] vs' out) (q : ByteArray) (t : Int) : glook q vs' = some t ↔ (q = n1B ∧ t = 5) ∨ (q = n2B ∧ t = 7) ∨ (q = n3B ∧ t = 7) := by
  by_cases h : q ∈ [n2B, n3B]
  · rw [hM.lk1 q h]
    have hm : mxT (glook q vs) 7 = 7 := by
      unfold mxT
      split
      · rename_i o ho
        rcases (h1 _ _).1 ho with ⟨_, rfl⟩ | ⟨_, rfl⟩ <;> decide
      · rfl
    rw [hm]
    simp only [List.mem_cons, List.not_mem_nil, or_false] at h
    constructor
    · intro e; cases e
      rcases h with h | h
      · exact .inr (.inl ⟨h, rfl⟩)
      · exact .inr (.inr ⟨h, rfl⟩)
    · rintro (⟨h2, rfl⟩ | ⟨_, rfl⟩ | ⟨_, rfl⟩)
      · rcases h with h | h <;> (rw [h2] at h; exact absurd h (by decide))
      · rfl
      · rfl
  · rw [hM.lk0 q h, h1]
    simp only [List.mem_cons, List.not_mem_nil, or_false, not_or] at h
    simp [h.1, h.2]
theorem aw2 {lk0 : Ln} (hR : RI true A0 E cut last lk n vs') (hl0 : ∀ v to lab, lnkT lk0 v to lab = if (v, to, lab) = (n1B, n2B, yB) then some 5 else lnkT [] v to lab) (hl : ∀ v to lab, lnkT lk v to lab = if (v, to, lab) = (n2B, n3B, xB) then some 7 else lnkT lk0 v to lab)
    (h1 : ∀ q t, glook q vs = some t ↔ (q = n1B ∧ t = 5) ∨ (q = n2B ∧ t = 5)) (hM : MtI vs 7 [n2B, n3B] vs' out) (p : Pq) (t : Int) : rT true A0 n vs' p = some t ↔ (p = (n1B, n1B) ∧ t = 5) ∨ (p = (n2B, n2B) ∧ t = 7) ∨ (p = (n3B, n3B) ∧ t = 7) ∨ (p = (n2B, n3B) ∧ t = 7) := by
  have key : ∀ v to lab u, lnkT lk v to lab = some u → lab = xB → v = n2B ∧ to = n3B ∧ u = 7 := fun v to lab u h hx => by
    rw [hl] at h
    split at h
    · rename_i e; simp only [Prod.mk.injEq] at e; cases h; exact ⟨e.1, e.2.1, rfl⟩
    · rw [hl0] at h
      split at h
      · rename_i e; simp only [Prod.mk.injEq] at e; rw [e.2.2] at hx; exact absurd hx (by decide)
      · cases h
  have hD : ∀ {r v s t}, Dv A0 lk r v s t → r = n2B ∧ v = n3B ∧ s = 0 ∧ t = 7 := by
    intro r v s t d
    induction d with
    | base h k =>
      obtain ⟨_, h2, h3⟩ := A0_step k
      obtain ⟨h4, h5, h6⟩ := key _ _ _ _ h h2
      exact ⟨h4, h5, h3, h6⟩
    | step d h k ih =>
      obtain ⟨_, h2, h3⟩ := A0_step k
      obtain ⟨h4, h5, h6⟩ := key _ _ _ _ h h2
      rw [ih.2.1] at h4
      exact absurd h4 (by decide)
  have hN : ∀ r v s t, nodT n r v s = some t → r = n2B ∧ v = n3B ∧ s = 0 ∧ t ≤ 7 := fun r v s t h => by
    obtain ⟨t', h2, d⟩ := hR.cl.snd _ _ _ _ h
    obtain ⟨h3, h4, h5, h6⟩ := hD d
    exact ⟨h3, h4, h5, by omega⟩
  obtain ⟨t7, ht7, hge⟩ := hR.cl.cl0 n2B n3B xB 7 0 (by rw [hl, if_pos rfl]) rfl
  have e7 : t7 = 7 := by have := (hN _ _ _ _ ht7).2.2.2; omega
  subst e7
  have hheld : held A0 n (n2B, n3B) := ⟨0, _, rfl, ht7⟩
  have htime : timeF A0 n n2B n3B = 7 := by
    obtain ⟨s, h2, h3⟩ := held_time hR.cl.fin hR.hcut hheld
    have h4 := A0_takes h2
    subst h4
    have : nodT n n2B n3B 0 = some (timeF A0 n n2B n3B) := h3
    rw [ht7] at this
    exact (Option.some.inj this).symm
  obtain ⟨p1, p2⟩ := p
  unfold rT besT
  by_cases e : p1 = p2
  · subst e
    rw [if_pos ⟨rfl, rfl⟩]
    unfold loopT
    rw [if_pos rfl, vs2_look h1 hM]
    simp only [Prod.mk.injEq, and_self]
    constructor
    · rintro (h | h | h)
      · exact .inl h
      · exact .inr (.inl h)
      · exact .inr (.inr (.inl h))
    · rintro (h | h | h | ⟨⟨h2, h3⟩, _⟩)
      · exact .inl h
      · exact .inr (.inl h)
      · exact .inr (.inr h)
      · rw [h2] at h3; exact absurd h3 (by decide)
  · rw [if_neg (fun h => e h.2), tree_some]
    constructor
    · rintro ⟨⟨s, τ, _, h2⟩, h3⟩
      obtain ⟨h4, h5, _, _⟩ := hN _ _ _ _ h2
      simp only at h4 h5 h3
      subst h4 h5
      exact .inr (.inr (.inr ⟨rfl, by rw [h3]; exact htime⟩))
    · rintro (⟨h, _⟩ | ⟨h, _⟩ | ⟨h, _⟩ | ⟨h, ht⟩)
      · cases h; exact absurd rfl e
      · cases h; exact absurd rfl e
      · cases h; exact absurd rfl e
      · cases h; rw [ht]; exact ⟨hheld, htime.symm⟩
end
abbrev awB : List Pc := [⟨n2B, n2B, 7⟩, ⟨n2B, n3B, 7⟩, ⟨n3B, n3B, 7⟩]
theorem s12 : sLt n1B n2B := (sLt_ul _ _).2 (by decide)
theorem s23 : sLt n2B n3B := (sLt_ul _ _).2 (by decide)
theorem mem_eq {p : Pc} {a b : ByteArray} {t : Int} : p = ⟨a, b, t⟩ ↔ (p.src, p.dst) = (a, b) ∧ p.time = t := by
  obtain ⟨p1, p2, p3⟩ := p
  simp [and_assoc]
theorem awA_shw {T : Tm} (h : ∀ p t, T p = some t ↔ (p = (n1B, n1B) ∧ t = 5) ∨ (p = (n2B, n2B) ∧ t = 5)) : Shw [⟨n1B, n1B, 5⟩, ⟨n2B, n2B, 5⟩] T :=
  ⟨by simp only [List.pairwise_cons, List.mem_singleton, forall_eq, List.not_mem_nil, false_imp_iff, implies_true, and_true, List.Pairwise.nil]; exact .inl s12, fun p => by
    rw [h, List.mem_cons, List.mem_singleton, mem_eq, mem_eq]⟩
theorem awB_shw {T : Tm} (h : ∀ p t, T p = some t ↔ (p = (n2B, n2B) ∧ t = 7) ∨ (p = (n3B, n3B) ∧ t = 7) ∨ (p = (n2B, n3B) ∧ t = 7)) : Shw awB T := by
  refine ⟨?_, fun p => ?_⟩
  · simp only [List.pairwise_cons, List.mem_cons, List.not_mem_nil, or_false, forall_eq_or_imp, forall_eq, false_imp_iff, implies_true, and_true, List.Pairwise.nil]
    exact ⟨⟨.inr ⟨rfl, s23⟩, .inl s23⟩, .inl s23⟩
  · rw [h, List.mem_cons, List.mem_cons, List.mem_singleton, mem_eq, mem_eq, mem_eq]
    constructor
    · rintro (h | h | h)
      · exact .inl h
      · exact .inr (.inr h)
      · exact .inr (.inl h)
    · rintro (h | h | h)
      · exact .inl h
      · exact .inr (.inr h)
      · exact .inr (.inl h)
theorem rT_nil : rT true A0 [] [] = fun _ => none := by
  funext p
  cases h : rT true A0 [] [] p with
  | none => rfl
  | some t =>
    exfalso
    unfold rT besT at h
    split at h
    · unfold loopT at h; split at h <;> cases h
    · obtain ⟨⟨s, τ, _, h2⟩, _⟩ := tree_some.1 h
      cases h2
theorem aw_a {T1 : Tm} (h1 : ∀ p t, T1 p = some t ↔ (p = (n1B, n1B) ∧ t = 5) ∨ (p = (n2B, n2B) ∧ t = 5)) {l : List Pc} (hl : Shw l (chg (rT true A0 [] []) T1)) : l = [⟨n1B, n1B, 5⟩, ⟨n2B, n2B, 5⟩] :=
  hl.uniq (awA_shw fun p t => by rw [chg_some, h1, rT_nil]; simp)
theorem aw_b {T1 T2 : Tm} (h1 : ∀ p t, T1 p = some t ↔ (p = (n1B, n1B) ∧ t = 5) ∨ (p = (n2B, n2B) ∧ t = 5)) (h2 : ∀ p t, T2 p = some t ↔ (p = (n1B, n1B) ∧ t = 5) ∨ (p = (n2B, n2B) ∧ t = 7) ∨ (p = (n3B, n3B) ∧ t = 7) ∨ (p = (n2B, n3B) ∧ t = 7)) {l : List Pc} (hl : Shw l (chg T1 T2)) : l = awB :=
  hl.uniq (awB_shw fun p t => by
    rw [chg_some, h2]
    have := h1 p t
    constructor
    · rintro ⟨(h | h | h | h), h3⟩
      · exact absurd (this.2 (.inl h)) h3
      · exact .inl h
      · exact .inr (.inl h)
      · exact .inr (.inr h)
    · intro h
      refine ⟨?_, fun h3 => ?_⟩
      · rcases h with h | h | h
        · exact .inr (.inl h)
        · exact .inr (.inr (.inl h))
        · exact .inr (.inr (.inr h))
      · have h4 := this.1 h3
        have : t = 5 := by rcases h4 with h4 | h4 <;> exact h4.2
        have : t = 7 := by rcases h with h | h | h <;> exact h.2
        omega)
theorem aw_c {T2 T3 : Tm} (h2 : ∀ p t, T2 p = some t ↔ (p = (n1B, n1B) ∧ t = 5) ∨ (p = (n2B, n2B) ∧ t = 7) ∨ (p = (n3B, n3B) ∧ t = 7) ∨ (p = (n2B, n3B) ∧ t = 7)) (h3 : ∀ p t, T3 p = some t ↔ T2 p = some t ∧ 5 < t) {l : List Pc} (hl : Shw l T3) : l = awB :=
  hl.uniq (awB_shw fun p t => by
    rw [h3, h2]
    constructor
    · rintro ⟨(h | h | h | h), h4⟩
      · have := h.2; omega
      · exact .inl h
      · exact .inr (.inl h)
      · exact .inr (.inr h)
    · intro h
      refine ⟨?_, ?_⟩
      · rcases h with h | h | h
        · exact .inr (.inl h)
        · exact .inr (.inr (.inl h))
        · exact .inr (.inr (.inr h))
      · have : t = 7 := by rcases h with h | h | h <;> exact h.2
        omega)
theorem star_etr {w : World} {b : Nat} (h : RdS w (.slice (some ⟨b, 0, none⟩) 1 1) 3 etC [kidT]) : EtR w (starT (.slice (some ⟨b, 0, none⟩) 1 1)) := by
  unfold starT EtR
  refine ⟨h, fun t ht => ?_⟩
  have := List.mem_singleton.1 ht
  subst this
  unfold EtR
  exact ⟨⟨⟨by simp, by simp⟩, .inl ⟨rfl, _, _, rfl⟩⟩, fun t h => by cases h⟩
abbrev roC (ro mv a f : Nat) : Hp := pt ro (.cells #[.map (some mv), .pointer (some ⟨a, 0, none⟩), .pointer (some ⟨f, 0, none⟩)] 81 (0, 0))
theorem new_star {s : Sy} [NoEx s] {L : List Hp} {v : Value} (w : World) (hT : TB w) (ht : EtR w (starT v)) (H0 : Hd s w L) : CC Tryz.prog 8 [.agg (etC (starT v)).toArray].toArray w (fun r w' => ∃ (g : KE.Sub) (ro a f mn ml mv : Nat), r = .tuple #[.pointer (some ⟨ro, 0, none⟩), I 0] ∧ AuG g a A0 ∧ RI true A0 [] (-1) (-1) [] [] [] ∧
    Hd s w' (roC ro mv a f :: Mp TS mv (([] : List (ByteArray × Int)).map (gval I)) :: pt f (.cells (foC a mn ml (-1) (-1)).toArray 143 (0, 0)) :: Mp TSp mn (([] : Nn).map (gval pI)) :: IM TS I ([] : Nn) :: Mp TS ml (([] : Ln).map (gval pI)) :: IM TLk I ([] : Ln) :: fz g :: L)) := by
  refine (c8 w hT ht (Hd.start w)).mono ?_
  rintro v' w' (⟨h, _⟩ | ⟨_, h, _⟩ | ⟨hr, A, g, ro, a, f, mn, ml, mv, hd, rfl, hA, hR, H⟩)
  · exact absurd (star_right v) h
  · rw [star_dfa] at h; cases h
  · rw [star_dfa] at hd
    cases hd
    exact ⟨g, ro, a, f, mn, ml, mv, rfl, hA, hR, Hd.frame (A := [_, _, _, _, _, _, _, _]) H0 H⟩
theorem cal8 : Cal Tryz.prog 8 := ⟨_, Tryz.func8, rfl, by decide⟩
theorem cal9 : Cal Tryz.prog 9 := ⟨_, Tryz.func9, rfl, by decide⟩
theorem cal11 : Cal Tryz.prog 11 := ⟨_, Tryz.func11, rfl, by decide⟩
theorem cal12 : Cal Tryz.prog 12 := ⟨_, Tryz.func12, rfl, by decide⟩
theorem cal17 : Cal Tryz.prog 17 := ⟨_, Tryz.func17, rfl, by decide⟩
theorem cal28 : Cal Tryz.prog 28 := ⟨_, Tryz.func28, rfl, by decide⟩
theorem c6 (w : World) (hT : TB w) : CC Tryz.prog 6 [].toArray w (fun r w' => r = .bool true ∧ Ext w w') := by
  obtain ⟨w0, e0⟩ : ∃ w0, w0 = w := ⟨w, rfl⟩
  subst e0
  have H := Hd.start w0
  refine CC.of (N := 73) Tryz.func6 rfl rfl rfl ?_
  refine WC.seq ?_
  refine WC.region ?_
  refine l_rd rfl rfl (x_assign ev_c) ?_
  refine WL.nil ?_
  refine WC.seq ?_
  refine WC.region ?_
  refine l_st rfl (s_callL cal28 (c28 _ H) ?_)
  rintro _ w ⟨bs, rfl, H⟩
  refine l_st rfl (s_callL cal8 (new_star (v := .slice (some ⟨bs, 0, none⟩) 1 1) _ (hT.old (H.old 1 rfl)) (star_etr (show RdS _ _ 3 etC [kidT] from H.sl 0 rfl)) H) ?_)
  rintro _ w ⟨g, ro, a, f, mn, ml, mv, rfl, hA, hR, H⟩
  refine l_rd rfl rfl (x_move (by conv => lhs; whnf)) ?_
  refine l_rd rfl rfl (x_extract rfl rfl) ?_
  refine l_rd rfl rfl (x_extract rfl rfl) ?_
  refine l_rd rfl rfl (x_assign (by conv => lhs; whnf)) ?_
  refine l_rd rfl rfl (x_assign (by conv => lhs; whnf)) ?_
  refine WL.nil ?_
  refine WC.seq ?_
  refine WC.seq ?_
  refine WC.region ?_
  refine l_rd rfl rfl (x_move (by conv => lhs; whnf)) ?_
  refine l_rdD rfl rfl (x_neq rfl rfl) (fun h14 => ?_) (fun h14 => ?_)
  ·
    first | exact absurd rfl h14 | exact absurd (by decide) h14 | (exfalso; revert h14; simp)
  ·
    refine WL.nil ?_
    refine WC.cond0 rfl ?_
    refine WC.skip ?_
    refine WC.seq ?_
    refine WC.region ?_
    refine l_rd rfl rfl (x_move (by conv => lhs; whnf)) ?_
    refine l_st rfl (s_callL cal17 (c17 (a := n1B) (b := yB) (c := n2B) (t := 5) _) ?_)
    rintro _ w ⟨rfl, e1⟩
    have H := H.ext e1
    refine l_st rfl (s_callL cal12 (c12 (e := ⟨n1B, n2B, yB, 5, .slice none 0 0⟩) (xs := []) (X := fr w0) _ hR hA (by simp) rfl (fun w1 L1 H1 => ⟨⟨by simp, by simp⟩, .inl ⟨rfl, _, _, rfl⟩⟩) (fun p hp => by cases hp) (Hd.arrT [_, _, _, _, _, _, _, _, _, _] [0, 1, 2, 3, 4, 5, 6, 7, 9, 8] (by decide) rfl H)) ?_)
    rintro _ w ⟨v6, er, rfl, ⟨her, rfl, hwhy, H⟩ | ⟨rfl, n1, lk1, vs1, l1, k1, k2, k3, hR1, hlk1, hm1, hm0, hS1, H⟩⟩
    ·
      exact (hwhy.elim (fun h => h chk1) (fun h => h ⟨by decide, by decide⟩)).elim
    ·
      obtain ⟨out1, hM1⟩ := hm1 rfl
      have hA1 := aw1 hR1 hlk1 hM1
      have ha := aw_a hA1 hS1
      subst ha
      obtain ⟨x1, z1, rfl⟩ := (H.sl 0 rfl).shape
      refine l_rd rfl rfl (x_move (by conv => lhs; whnf)) ?_
      refine l_rd rfl rfl (x_extract rfl rfl) ?_
      refine l_rd rfl rfl (x_extract rfl rfl) ?_
      refine l_rd rfl rfl (x_assign (by conv => lhs; whnf)) ?_
      refine l_rd rfl rfl (x_assign (by conv => lhs; whnf)) ?_
      refine WL.nil ?_
      refine WC.seq ?_
      refine WC.region ?_
      refine l_rd rfl rfl (x_move (by conv => lhs; whnf)) ?_
      refine l_st rfl (s_callL cal17 (c17 (a := n2B) (b := xB) (c := n3B) (t := 7) _) ?_)
      rintro _ w ⟨rfl, e1⟩
      have H := H.ext e1
      refine l_st rfl (s_callL cal12 (c12 (e := ⟨n2B, n3B, xB, 7, .slice none 0 0⟩) (xs := []) (X := fr w0) _ hR1 hA (by simp) rfl (fun w1 L1 H1 => ⟨⟨by simp, by simp⟩, .inl ⟨rfl, _, _, rfl⟩⟩) (fun p hp => by cases hp) (Hd.arrT [_, _, _, _, _, _, _, _, _, _, _] [1, 2, 3, 4, 5, 6, 7, 8, 9, 0, 10] (by decide) rfl H)) ?_)
      rintro _ w ⟨v6, er, rfl, ⟨her, rfl, hwhy, H⟩ | ⟨rfl, n2, lk2, vs2, l2, k1, k2, k3, hR2, hlk2, hm2, hm0, hS2, H⟩⟩
      ·
        exact (hwhy.elim (fun h => h chk2) (fun h => h ⟨by decide, by decide⟩)).elim
      ·
        obtain ⟨out2, hM2⟩ := hm2 rfl
        have hA2 := aw2 hR2 hlk1 hlk2 (vs1_look hM1) hM2
        have hb := aw_b hA1 hA2 hS2
        subst hb
        obtain ⟨x2, z2, rfl⟩ := (H.sl 0 rfl).shape
        obtain ⟨x2, y2, rfl, -⟩ := (show RdS w _ 3 pcC awB from H.sl 0 rfl).el pcC_len (show awB[0]? = some _ from rfl)
        refine l_rd rfl rfl (x_move (by conv => lhs; whnf)) ?_
        refine l_rd rfl rfl (x_extract rfl rfl) ?_
        refine l_rd rfl rfl (x_extract rfl rfl) ?_
        refine l_rd rfl rfl (x_assign (by conv => lhs; whnf)) ?_
        refine l_rd rfl rfl (x_assign (by conv => lhs; whnf)) ?_
        refine WL.nil ?_
        refine WC.seq ?_
        refine WC.region ?_
        refine l_rd rfl rfl (x_move (by conv => lhs; whnf)) ?_
        refine l_st rfl (s_callL cal11 (c11 _ hR2 hA (by simp) (Hd.arrT [_, _, _, _, _, _, _, _, _, _, _, _] [1, 2, 3, 4, 5, 6, 7, 8, 0, 9, 10, 11] (by decide) rfl H)) ?_)
        rintro v28 w ⟨n3, lk3, vs3, hR3, hT3, H⟩
        refine WL.nil ?_
        refine WC.seq ?_
        refine WC.region ?_
        refine l_rd rfl rfl (x_move (by conv => lhs; whnf)) ?_
        refine l_st rfl (s_callL cal9 (c9 _ hR3 hA (by simp) (Hd.arrT [_, _, _, _, _, _, _, _, _, _, _, _] [0, 1, 2, 3, 4, 5, 6, 7, 8, 9, 10, 11] (by decide) rfl H)) ?_)
        rintro v30 w ⟨l3, hS3, hB3, H⟩
        have hc := aw_c hA2 hT3 hS3
        subst hc
        obtain ⟨x3, z3, rfl⟩ := (H.sl 0 rfl).shape
        obtain ⟨x3, y3, rfl, -⟩ := (show RdS w _ 3 pcC awB from H.sl 0 rfl).el pcC_len (show awB[0]? = some _ from rfl)
        refine l_rd rfl rfl (x_assign (by conv => lhs; whnf)) ?_
        refine WL.nil ?_
        refine WC.seq ?_
        refine WC.region ?_
        refine l_rd rfl rfl (x_move (by conv => lhs; whnf)) ?_
        refine l_rdD rfl rfl (x_eql rfl rfl) (fun h32 => ?_) (fun h32 => ?_)
        ·
          refine l_rd rfl rfl (x_move (by conv => lhs; whnf)) ?_
          refine l_gy (wantY rfl rfl rfl) rfl rfl (x_move (by conv => lhs; whnf)) ?_
          refine l_gyD (wantY rfl rfl rfl) rfl rfl (x_eql rfl rfl) (fun h35 => ?_) (fun h35 => ?_)
          ·
            refine l_rd rfl rfl (x_pick1 rfl (by conv => lhs; whnf)) ?_
            refine l_rd rfl rfl (x_move (by conv => lhs; whnf)) ?_
            refine l_gy (wantY rfl rfl rfl) rfl rfl (x_move (by conv => lhs; whnf)) ?_
            refine l_gy (wantY rfl rfl rfl) rfl rfl (x_lenSlice Tryz.underlying38 rfl rfl) ?_
            refine l_gyD (wantY rfl rfl rfl) rfl rfl (x_eql rfl rfl) (fun h40 => ?_) (fun h40 => ?_)
            ·
              refine l_rd rfl rfl (x_pick1 rfl (by conv => lhs; whnf)) ?_
              refine l_rd rfl rfl (x_move (by conv => lhs; whnf)) ?_
              refine l_gy (wantY rfl rfl rfl) rfl rfl (x_move (by conv => lhs; whnf)) ?_
              refine l_gy (wantY rfl rfl rfl) rfl rfl (x_lenSlice Tryz.underlying38 rfl rfl) ?_
              refine l_gyD (wantY rfl rfl rfl) rfl rfl (x_eql rfl rfl) (fun h45 => ?_) (fun h45 => ?_)
              ·
                refine l_rd rfl rfl (x_pick1 rfl (by conv => lhs; whnf)) ?_
                refine l_rd rfl rfl (x_move (by conv => lhs; whnf)) ?_
                refine l_gy (wantY rfl rfl rfl) rfl rfl (x_move (by conv => lhs; whnf)) ?_
                refine l_gy (wantY rfl rfl rfl) rfl rfl (x_indexAddr Tryz.underlying38 ty43 rfl rfl (by omega) (by omega)) ?_
                refine l_gy (wantY rfl rfl rfl) rfl rfl (x_loadF (vs := [_, _, _]) Tryz.underlying43 rfl ty43 rfl rfl (sub_row 0 (RdS.at pcC_len (show RdS _ _ 3 pcC awB from H.sl 9 rfl) (show awB[0]? = some ⟨n2B, n2B, 7⟩ from rfl)) rfl)) ?_
                refine l_gy (wantY rfl rfl rfl) rfl rfl (x_buildL (pl := [(0, 1), (1, 1), (2, 1)]) (cells := pcC ⟨n2B, n2B, 7⟩) Tryz.underlying43 ty43 (by kernel_rfl) rfl) ?_
                refine l_gyD (wantY rfl rfl rfl) rfl rfl (x_eqlA (by kernel_rfl) rfl rfl (eq43 (p := ⟨n2B, n2B, 7⟩) (q := ⟨n2B, n2B, 7⟩))) (fun h52 => ?_) (fun h52 => ?_)
                ·
                  refine l_rd rfl rfl (x_pick1 rfl (by conv => lhs; whnf)) ?_
                  refine l_rd rfl rfl (x_move (by conv => lhs; whnf)) ?_
                  refine l_gy (wantY rfl rfl rfl) rfl rfl (x_move (by conv => lhs; whnf)) ?_
                  refine l_gy (wantY rfl rfl rfl) rfl rfl (x_lenSlice Tryz.underlying38 rfl rfl) ?_
                  refine l_gyD (wantY rfl rfl rfl) rfl rfl (x_eql rfl rfl) (fun h57 => ?_) (fun h57 => ?_)
                  ·
                    refine l_rd rfl rfl (x_pick1 rfl (by conv => lhs; whnf)) ?_
                    refine l_rd rfl rfl (x_move (by conv => lhs; whnf)) ?_
                    refine l_gy (wantY rfl rfl rfl) rfl rfl (x_move (by conv => lhs; whnf)) ?_
                    refine l_gy (wantY rfl rfl rfl) rfl rfl (x_indexAddr Tryz.underlying38 ty43 rfl rfl (by omega) (by omega)) ?_
                    refine l_gy (wantY rfl rfl rfl) rfl rfl (x_fieldAddr (k := 0) Tryz.underlying43 rfl rfl ty9 (by decide) rfl) ?_
                    refine l_gy (wantY rfl rfl rfl) rfl rfl (x_load Tryz.underlying9 rfl rfl ((RdS.at pcC_len (show RdS _ _ 3 pcC awB from H.sl 0 rfl) (show awB[2]? = some ⟨n3B, n3B, 7⟩ from rfl)) 0 _ rfl)) ?_
                    refine l_gyD (wantY rfl rfl rfl) rfl rfl (x_eqlS rfl rfl) (fun h64 => ?_) (fun h64 => ?_)
                    ·
                      refine l_rd rfl rfl (x_pick1 rfl (by conv => lhs; whnf)) ?_
                      refine l_rd rfl rfl (x_move (by conv => lhs; whnf)) ?_
                      refine l_gy (wantY rfl rfl rfl) rfl rfl (x_move (by conv => lhs; whnf)) ?_
                      refine l_gy (wantY rfl rfl rfl) rfl rfl (x_indexAddr Tryz.underlying38 ty43 rfl rfl (by omega) (by omega)) ?_
                      refine l_gy (wantY rfl rfl rfl) rfl rfl (x_fieldAddr (k := 1) Tryz.underlying43 rfl rfl ty9 (by decide) rfl) ?_
                      refine l_gy (wantY rfl rfl rfl) rfl rfl (x_load Tryz.underlying9 rfl rfl ((RdS.at pcC_len (show RdS _ _ 3 pcC awB from H.sl 0 rfl) (show awB[2]? = some ⟨n3B, n3B, 7⟩ from rfl)) 1 _ rfl)) ?_
                      refine l_gyD (wantY rfl rfl rfl) rfl rfl (x_eqlS rfl rfl) (fun h71 => ?_) (fun h71 => ?_)
                      ·
                        refine l_rd rfl rfl (x_pick1 rfl (by conv => lhs; whnf)) ?_
                        refine l_rd rfl rfl (x_assign (by conv => lhs; whnf)) ?_
                        refine WL.nil ?_
                        refine WC.ret ?_
                        refine atRet ?_
                        exact RetM.one rfl (by (conv => lhs; whnf); try rfl) (⟨rfl, H.below 10 rfl⟩)
                      ·
                        first | exact absurd rfl h71 | exact absurd (by decide) h71 | (exfalso; revert h71; simp)
                    ·
                      first | exact absurd rfl h64 | exact absurd (by decide) h64 | (exfalso; revert h64; simp)
                  ·
                    first | exact absurd rfl h57 | exact absurd (by decide) h57 | (exfalso; revert h57; simp)
                ·
                  first | exact absurd rfl h52 | exact absurd (by decide) h52 | (exfalso; revert h52; simp)
              ·
                first | exact absurd rfl h45 | exact absurd (by decide) h45 | (exfalso; revert h45; simp)
            ·
              first | exact absurd rfl h40 | exact absurd (by decide) h40 | (exfalso; revert h40; simp)
          ·
            first | exact absurd rfl h35 | exact absurd (by decide) h35 | (exfalso; revert h35; simp)
        ·
          first | exact absurd rfl h32 | exact absurd (by decide) h32 | (exfalso; revert h32; simp)
theorem cal6 : Cal Tryz.prog 6 := ⟨_, Tryz.func6, rfl, by decide⟩
theorem cal7 : Cal Tryz.prog 7 := ⟨_, Tryz.func7, rfl, by decide⟩
theorem cal10 : Cal Tryz.prog 10 := ⟨_, Tryz.func10, rfl, by decide⟩
theorem cal13 : Cal Tryz.prog 13 := ⟨_, Tryz.func13, rfl, by decide⟩
theorem DeOk.old {w w' : World} {d : De} (h : DeOk w d) (o : Old w w') : DeOk w' d := ⟨by obtain ⟨xs, h1, h2⟩ := h.1; exact ⟨xs, o.rdS h1, h2⟩, h.2⟩
theorem flt_at {f : Pc → Bool} {l : List Pc} {m : Nat} {p : Pc} (hp : l[m]? = some p) (hf : f p = true) : (l.filter f)[((l.take m).filter f).length]? = some p := by
  have e : l = l.take m ++ p :: l.drop (m + 1) := by rw [← drop_at hp, List.take_append_drop]
  have e2 : l.filter f = (l.take m).filter f ++ p :: (l.drop (m + 1)).filter f := by
    conv => lhs; rw [e]
    rw [List.filter_append, List.filter_cons, if_pos hf]
  rw [e2, List.getElem?_append_right (Nat.le_refl _), Nat.sub_self]; rfl
theorem flt_y {f : Pc → Bool} {l : List Pc} {m : Nat} {p : Pc} (hp : l[m]? = some p) (hf : f p = true) : ((l.take (m + 1)).filter f).length = ((l.take m).filter f).length + 1 := by
  rw [List.take_add_one, hp, Option.toList_some, List.filter_append, List.filter_cons, if_pos hf]; simp
theorem flt_n {f : Pc → Bool} {l : List Pc} {m : Nat} {p : Pc} (hp : l[m]? = some p) (hf : f p = false) : ((l.take (m + 1)).filter f).length = ((l.take m).filter f).length := by
  rw [List.take_add_one, hp, Option.toList_some, List.filter_append, List.filter_cons, if_neg (by rw [hf]; decide)]; simp
theorem flt_end {f : Pc → Bool} {l : List Pc} {m : Nat} (h : l.length ≤ m) : ((l.take m).filter f).length = (l.filter f).length := by rw [List.take_of_length_le h]
theorem Hd.nilE {s : Sy} {w : World} {L : List Hp} {l : List Pc} (h : l = []) (H : Hd s w L) : Hd s w (Sl (.slice none 0 0) 43 3 l.length (l.flatMap pcC) :: L) := by subst h; exact Hd.nil H 43 3
theorem pv_one {w : World} {v : Value} {xs : List Pr} (h : RdS w v 4 prC xs) : oneC v = true := by
  obtain ⟨a, c, rfl⟩ := h.shape; rfl
theorem de_one {d : De} (h : oneC d.e.pv = true) : ((deC d).all fun v => oneC v) = true := by
  simp only [List.all_cons, List.all_nil, h, Bool.and_true]; rfl
theorem c3 {t : Et} {v : Value} {dd : List De} (w : World) (hT : TB w) (ht : EtR w t) (hx : RdS w v 7 deC dd) (hD : ∀ d ∈ dd, DeOk w d) : CC Tryz.prog 3 [.agg (etC t).toArray, v].toArray w (fun r w' => r = .bool true ∧ Ext w w') := by
  obtain ⟨w0, e0⟩ : ∃ w0, w0 = w := ⟨w, rfl⟩
  subst e0
  have H := Hd.start w0
  obtain ⟨al, cl, rfl⟩ := hx.shape
  have hle := hx.le
  refine CC.of (N := 129) Tryz.func3 rfl rfl rfl ?_
  refine WC.seq ?_
  refine WC.region ?_
  refine l_st rfl (s_box (by conv => lhs; whnf) H fun b2 w H => ?_)
  refine l_rd rfl rfl (x_assign ev_c) ?_
  refine WL.nil ?_
  refine WC.seq ?_
  refine WC.seq ?_
  refine WC.region ?_
  refine l_st rfl (s_callL cal6 (c6 _ (hT.old (H.old 1 rfl))) ?_)
  rintro _ w ⟨rfl, e1⟩
  have H := H.ext e1
  refine l_rd rfl rfl (x_not rfl) ?_
  refine WL.nil ?_
  refine WC.cond0 rfl ?_
  refine WC.skip ?_
  refine WC.seq ?_
  refine WC.seq ?_
  refine WC.region ?_
  refine l_rd rfl rfl (x_loadF (vs := [_, _, _]) Tryz.underlying25 rfl ty25 rfl rfl (H.cellsL 0 rfl rfl)) ?_
  refine l_rd rfl rfl (x_move (by conv => lhs; whnf)) ?_
  refine l_st rfl (s_callL cal7 (c7 (dd := dd) _ (ht.old (H.old 1 rfl)) ((H.old 1 rfl).rdS hx) (fun d hd => (hD d hd).old (H.old 1 rfl))) ?_)
  rintro _ w ⟨b9, rfl, hb9, e1⟩
  have H := H.ext e1
  cases b9
  ·
    have hd14 : dd.length ≤ 14 := hb9 rfl
    refine WL.nil ?_
    refine WC.cond0 rfl ?_
    refine WC.skip ?_
    refine WC.seq ?_
    refine WC.region ?_
    refine l_rd rfl rfl (x_loadF (vs := [_, _, _]) Tryz.underlying25 rfl ty25 rfl rfl (H.cellsL 0 rfl rfl)) ?_
    refine l_st rfl (s_callL cal8 (c8 _ hT ht (Hd.arrT [_, _] [1, 0] (by decide) rfl H)) ?_)
    rintro _ w (⟨hnr, rfl, H⟩ | ⟨hr, hd, rfl, H⟩ | ⟨hr, A, g, ro, a, f, mn, ml, mv, hd, rfl, hA, hR, H⟩)
    ·
      refine l_rd rfl rfl (x_move (by conv => lhs; whnf)) ?_
      refine l_rd rfl rfl (x_extract rfl rfl) ?_
      refine l_rd rfl rfl (x_extract rfl rfl) ?_
      refine l_rd rfl rfl (x_assign (by conv => lhs; whnf)) ?_
      refine l_rd rfl rfl (x_assign (by conv => lhs; whnf)) ?_
      refine WL.nil ?_
      refine WC.seq ?_
      refine WC.seq ?_
      refine WC.region ?_
      refine l_rd rfl rfl (x_move (by conv => lhs; whnf)) ?_
      refine l_rdD rfl rfl (x_neq rfl rfl) (fun h29 => ?_) (fun h29 => ?_)
      ·
        refine WL.nil ?_
        refine WC.cond1 rfl ?_
        refine WC.seq ?_
        refine WC.region ?_
        refine l_rd rfl rfl (x_assign ev_c) ?_
        refine WL.nil ?_
        refine WC.ret ?_
        refine atRet ?_
        exact RetM.one rfl (by (conv => lhs; whnf); try rfl) (⟨rfl, H.below 0 rfl⟩)
      ·
        exact absurd (by decide) h29
    ·
      refine l_rd rfl rfl (x_move (by conv => lhs; whnf)) ?_
      refine l_rd rfl rfl (x_extract rfl rfl) ?_
      refine l_rd rfl rfl (x_extract rfl rfl) ?_
      refine l_rd rfl rfl (x_assign (by conv => lhs; whnf)) ?_
      refine l_rd rfl rfl (x_assign (by conv => lhs; whnf)) ?_
      refine WL.nil ?_
      refine WC.seq ?_
      refine WC.seq ?_
      refine WC.region ?_
      refine l_rd rfl rfl (x_move (by conv => lhs; whnf)) ?_
      refine l_rdD rfl rfl (x_neq rfl rfl) (fun h29 => ?_) (fun h29 => ?_)
      ·
        refine WL.nil ?_
        refine WC.cond1 rfl ?_
        refine WC.seq ?_
        refine WC.region ?_
        refine l_rd rfl rfl (x_assign ev_c) ?_
        refine WL.nil ?_
        refine WC.ret ?_
        refine atRet ?_
        exact RetM.one rfl (by (conv => lhs; whnf); try rfl) (⟨rfl, H.below 0 rfl⟩)
      ·
        exact absurd (by decide) h29
    ·
      obtain ⟨em, hem⟩ : ∃ em, em = takesA A 0 := ⟨_, rfl⟩
      rw [← hem] at hR
      refine l_rd rfl rfl (x_move (by conv => lhs; whnf)) ?_
      refine l_rd rfl rfl (x_extract rfl rfl) ?_
      refine l_rd rfl rfl (x_extract rfl rfl) ?_
      refine l_rd rfl rfl (x_assign (by conv => lhs; whnf)) ?_
      refine l_rd rfl rfl (x_assign (by conv => lhs; whnf)) ?_
      refine WL.nil ?_
      refine WC.seq ?_
      refine WC.seq ?_
      refine WC.region ?_
      refine l_rd rfl rfl (x_move (by conv => lhs; whnf)) ?_
      refine l_rdD rfl rfl (x_neq rfl rfl) (fun h29 => ?_) (fun h29 => ?_)
      ·
        exact absurd rfl h29
      ·
        refine WL.nil ?_
        refine WC.cond0 rfl ?_
        refine WC.skip ?_
        refine WC.seq ?_
        refine WC.seq ?_
        refine WC.region ?_
        refine l_rd rfl rfl (x_assign ev_c) ?_
        refine WL.nil ?_
        refine WC.block ?_
        refine WC.loop (fun ρ ds w => ∃ (k : Nat) (E : List Hq) (cut last : Int) (lk : Ln) (n : Nn) (vs : List (ByteArray × Int)), k ≤ dd.length ∧ E.length ≤ k ∧ RI em A E cut last lk n vs ∧ ρ 7 = I k ∧ ρ 1 = .slice al dd.length cl ∧ ρ 5 = .pointer (some ⟨ro, 0, none⟩) ∧ ds = [] ∧ Hd (sy w0) w [pt ro (.cells #[.map (some mv), .pointer (some ⟨a, 0, none⟩), .pointer (some ⟨f, 0, none⟩)] 81 (0, 0)), Mp TS mv (vs.map (gval I)), pt f (.cells (foC a mn ml cut last).toArray 143 (0, 0)), Mp TSp mn (n.map (gval pI)), IM TS I n, Mp TS ml (lk.map (gval pI)), IM TLk I lk, fz g, fr w0]) (fun ρ w => dd.length - (match ρ 7 with | .int _ k => k.toNat | _ => 0)) (⟨0, [], -1, -1, [], [], [], Nat.zero_le _, Nat.le_refl _, hR, rfl, rfl, rfl, rfl, Hd.arrT [_, _, _, _, _, _, _, _, _, _] [0, 1, 2, 3, 4, 5, 6, 7, 8] (by decide) rfl H⟩) ?_
        repeat clear H
        rintro ρ ds w ⟨k, E, cut, last, lk, n, vs, hk, hEk, hR, h7, h1, h5, rfl, H⟩
        have h7o := h7
        refine WC.seq ?_
        refine WC.seq ?_
        refine WC.region ?_
        refine l_rd rfl rfl (x_move h7) ?_
        refine l_rd rfl rfl (x_move h1) ?_
        refine l_rd rfl rfl (x_lenSlice Tryz.underlying26 rfl rfl) ?_
        refine l_rdD rfl rfl (x_lss rfl rfl) (fun h33 => ?_) (fun h33 => ?_)
        ·
          refine WL.nil ?_
          refine WC.cond1 rfl ?_
          refine WC.skip ?_
          refine WC.seq ?_
          refine WC.block ?_
          refine WC.seq ?_
          obtain ⟨d, hdk⟩ := lt_get (show k < dd.length by omega)
          obtain ⟨bd, od, hald, hc1⟩ := hx.el deC_len hdk
          have h1b := h1
          rw [hald] at h1b
          obtain ⟨⟨xs, hxs, hsz⟩, -⟩ := hD d (List.mem_of_getElem? hdk)
          refine WC.region ?_
          refine l_rd rfl rfl (x_move h1b) ?_
          refine l_rd rfl rfl (x_move h7) ?_
          refine l_rd rfl rfl (x_indexAddr Tryz.underlying26 ty37 rfl rfl (by omega) (by omega)) ?_
          refine l_rd rfl rfl (x_loadF (vs := [_, _, _, _, _, _, _]) Tryz.underlying37 rfl ty37 rfl rfl (sub_row 0 (fun j u hj => (H.old 8 rfl).cell (hc1 j u hj)) rfl)) ?_
          refine l_st rfl (s_alloc ty37 H fun b8 w H => ?_)
          refine l_no (s_stA 0 rfl ty37 rfl (by conv => lhs; whnf) rfl (de_one (pv_one hxs)) rfl H (fun w H => ?_))
          refine WL.nil ?_
          refine WC.seq ?_
          refine WC.region ?_
          refine l_rd rfl rfl (x_move h5) ?_
          refine l_st rfl (s_callL cal9 (c9 _ hR hA (by first | omega | (rw [List.length_cons]; omega)) (Hd.arrT [_, _, _, _, _, _, _, _, _, _] [1, 2, 3, 4, 5, 6, 7, 8, 0, 9] (by decide) rfl H)) ?_)
          rintro v41 w ⟨l1, hS1, hB1, H⟩
          obtain ⟨a1, z1, rfl⟩ := (H.sl 0 rfl).shape
          refine l_rd rfl rfl (x_assign (by conv => lhs; whnf)) ?_
          refine WL.nil ?_
          refine WC.seq ?_
          refine WC.seq ?_
          refine WC.region ?_
          refine l_rd rfl rfl (x_fieldAddr (k := 0) Tryz.underlying37 rfl rfl ty3 (by decide) rfl) ?_
          refine l_rd rfl rfl (x_load Tryz.underlying3 rfl rfl (H.cellL 9 rfl rfl)) ?_
          refine l_st rfl (s_callL cal10 (c10 _ (by decide)) ?_)
          rintro _ w ⟨rfl, e1⟩
          have H := H.ext e1
          refine l_rdD rfl rfl (x_geq rfl rfl) (fun h45 => ?_) (fun h45 => ?_)
          ·
            refine WL.nil ?_
            refine WC.cond1 rfl ?_
            refine WC.seq ?_
            refine WC.region ?_
            refine l_rd rfl rfl (x_move h5) ?_
            refine l_rd rfl rfl (x_fieldAddr (k := 1) Tryz.underlying37 rfl rfl ty3 (by decide) rfl) ?_
            refine l_rd rfl rfl (x_load Tryz.underlying3 rfl rfl (H.cellL 9 rfl rfl)) ?_
            refine l_st rfl (s_callL cal11 (c11 _ hR hA (by omega) (Hd.arrT [_, _, _, _, _, _, _, _, _, _, _] [1, 2, 3, 4, 5, 6, 7, 8, 0, 9, 10] (by decide) rfl H)) ?_)
            rintro v49 w ⟨n2, lk2, vs2, hR2, hT2, H⟩
            have hRx := hR2
            refine WL.nil ?_
            refine WC.seq ?_
            refine WC.region ?_
            refine l_rd rfl rfl (x_move h5) ?_
            refine l_st rfl (s_callL cal9 (c9 _ hRx hA (by first | omega | (rw [List.length_cons]; omega)) (Hd.arrT [_, _, _, _, _, _, _, _, _, _, _] [0, 1, 2, 3, 4, 5, 6, 7, 8, 9, 10] (by decide) rfl H)) ?_)
            rintro v51 w ⟨l2, hS2, hB2, H⟩
            obtain ⟨a2, z2, rfl⟩ := (H.sl 0 rfl).shape
            refine l_rd rfl rfl (x_assign (by conv => lhs; whnf)) ?_
            refine WL.nil ?_
            refine WC.seq ?_
            refine WC.region ?_
            refine l_rd rfl rfl (x_assign ev_c) ?_
            refine WL.nil ?_
            refine WC.seq ?_
            refine WC.seq ?_
            refine WC.region ?_
            refine l_rd rfl rfl (x_assign ev_c) ?_
            refine WL.nil ?_
            refine WC.block ?_
            obtain ⟨fc, hfc⟩ : ∃ fc : Pc → Bool, fc = fun q => decide (d.m < q.time) := ⟨_, rfl⟩
            have hq : l2 = l1.filter fc := hS2.uniq (hS1.filter fun p => by rw [hT2, hfc, decide_eq_true_eq])
            have hl2 : l2.length = (l1.filter fc).length := by rw [← hq]
            refine WC.loop (fun ρ ds w => ∃ (m j : Nat), m ≤ l1.length ∧ j = ((l1.take m).filter fc).length ∧ j ≤ l2.length ∧ ρ 12 = I m ∧ ρ 11 = I j ∧ ρ 9 = .slice a1 l1.length z1 ∧ ρ 10 = .slice a2 l2.length z2 ∧ ρ 8 = .pointer (some ⟨b8, 0, none⟩) ∧ ρ 7 = I k ∧ ρ 1 = .slice al dd.length cl ∧ ρ 5 = .pointer (some ⟨ro, 0, none⟩) ∧ ds = [] ∧ Hd (sy w0) w [Sl (.slice a1 l1.length z1) 43 3 l1.length (l1.flatMap pcC), Sl (.slice a2 l2.length z2) 43 3 l2.length (l2.flatMap pcC), pt b8 (.cells (deC d).toArray 37 (0, 0)), pt ro (.cells #[.map (some mv), .pointer (some ⟨a, 0, none⟩), .pointer (some ⟨f, 0, none⟩)] 81 (0, 0)), Mp TS mv (vs2.map (gval I)), pt f (.cells (foC a mn ml (max cut d.m) last).toArray 143 (0, 0)), Mp TSp mn (n2.map (gval pI)), IM TS I n2, Mp TS ml (lk2.map (gval pI)), IM TLk I lk2, fz g, fr w0]) (fun ρ w => l1.length - (match ρ 12 with | .int _ k => k.toNat | _ => 0)) (⟨0, 0, Nat.zero_le _, rfl, Nat.zero_le _, rfl, rfl, rfl, rfl, rfl, h7, h1, h5, rfl, Hd.arrT [_, _, _, _, _, _, _, _, _, _, _, _] [9, 0, 10, 1, 2, 3, 4, 5, 6, 7, 8, 11] (by decide) rfl H⟩) ?_
            repeat clear H
            rintro ρ ds w ⟨m, j, hm, hj, hj2, h12, h11, h9, h10, h8, h7, h1, h5, rfl, H⟩
            have h12o := h12
            refine WC.seq ?_
            refine WC.seq ?_
            refine WC.region ?_
            refine l_rd rfl rfl (x_move h12) ?_
            refine l_rd rfl rfl (x_move h9) ?_
            refine l_rd rfl rfl (x_lenSlice Tryz.underlying38 rfl rfl) ?_
            refine l_rdD rfl rfl (x_lss rfl rfl) (fun h55 => ?_) (fun h55 => ?_)
            ·
              refine WL.nil ?_
              refine WC.cond1 rfl ?_
              refine WC.skip ?_
              refine WC.seq ?_
              refine WC.block ?_
              refine WC.seq ?_
              refine WC.seq ?_
              obtain ⟨p, hp⟩ := lt_get (show m < l1.length by omega)
              have hr1 := (show RdS w (.slice a1 l1.length z1) 3 pcC l1 from H.sl 0 rfl)
              obtain ⟨bt, ot, hat, -⟩ := hr1.el pcC_len hp
              rw [hat] at hr1
              have h9b := h9
              rw [hat] at h9b
              refine WC.draw mixed [] [[], [], [0, 1], [0, 1, 2], [0, 1, 2, 3], [], [5], [0, 1, 2, 3, 4, 5, 6]] [0, 1, 2, 3, 4, 5, 6, 7] (by kernel_rfl) ?_
              have H := H.drew
              refine k_rd rfl rfl (RS.of rfl rfl (x_move h9b)) ?_
              refine k_rd rfl rfl (RS.of rfl rfl (x_move h12)) ?_
              refine k_rd rfl rfl (RS.of rfl rfl (x_indexAddr Tryz.underlying38 ty43 rfl rfl (by omega) (by omega))) ?_
              refine k_rd rfl rfl (RS.of rfl rfl (x_fieldAddr (k := 2) Tryz.underlying43 rfl rfl ty3 (by decide) rfl)) ?_
              refine k_rd rfl rfl (RS.of rfl rfl (x_load Tryz.underlying3 rfl rfl ((RdS.at pcC_len hr1 hp) 2 _ rfl))) ?_
              refine k_rd rfl rfl (RS.of rfl rfl (x_fieldAddr (k := 1) Tryz.underlying37 rfl rfl ty3 (by decide) h8)) ?_
              refine k_rd rfl rfl (RS.of rfl rfl (x_load Tryz.underlying3 rfl rfl (H.cellL 2 rfl rfl))) ?_
              refine k_rdD rfl rfl rfl rfl (x_leq rfl rfl) (fun h65 => ?_) (fun h65 => ?_)
              ·
                have hfp : fc p = false := by rw [hfc]; exact decide_eq_false (by omega)
                show _
                refine WC.cond1 rfl ?_
                refine WC.exit ?_
                refine WC.region ?_
                refine l_rd rfl rfl (x_move h12) ?_
                refine l_rd rfl rfl (x_add rfl rfl (by omega) (by omega)) ?_
                refine l_rd rfl rfl (x_assign (by conv => lhs; whnf)) ?_
                refine WL.nil ?_
                refine WC.again (⟨m + 1, j, by omega, by rw [hj]; exact (flt_n hp hfp).symm, hj2, rfl, h11, h9, h10, h8, h7, h1, h5, rfl, Hd.arrT [_, _, _, _, _, _, _, _, _, _, _, _] [0, 1, 2, 3, 4, 5, 6, 7, 8, 9, 10, 11] (by decide) rfl H⟩) (by show _ - _ < _ - _; rw [h12o]; show l1.length - ((m : Int) + 1).toNat < l1.length - (m : Int).toNat; omega)
              ·
                have hfp : fc p = true := by rw [hfc]; exact decide_eq_true (by omega)
                have hp2 : l2[j]? = some p := by rw [hq, hj]; exact flt_at hp hfp
                have hjl := (List.getElem?_eq_some_iff.1 hp2).1
                show _
                refine WC.cond0 rfl ?_
                refine WC.skip ?_
                refine WC.seq ?_
                refine WC.seq ?_
                have hr1 := (show RdS w (.slice a1 l1.length z1) 3 pcC l1 from H.sl 0 rfl)
                rw [hat] at hr1
                have hr2 := (show RdS w (.slice a2 l2.length z2) 3 pcC l2 from H.sl 1 rfl)
                obtain ⟨bu, ou, hau, -⟩ := hr2.el pcC_len hp2
                rw [hau] at hr2
                have h10b := h10
                rw [hau] at h10b
                refine WC.draw mixed [] [[], [], [1], [0, 1, 2], [0, 1, 2, 3], [0, 1, 2, 3, 4], [0, 1, 2, 3, 4], [0, 1, 2, 3, 4, 5, 6], [0, 1, 2, 3, 4, 5, 6, 7], [0, 1, 2, 3, 4], [0, 1, 2, 3, 4], [0, 1, 2, 3, 4, 9, 10], [0, 1, 2, 3, 4, 9, 10, 11], [0, 1, 2, 3, 4, 5, 6, 7, 8, 9, 10, 11, 12], [0, 1, 2, 3, 4, 5, 6, 7, 8, 9, 10, 11, 12, 13]] [0, 1, 2, 3, 4, 5, 6, 7, 8, 9, 10, 11, 12, 13, 14] (by kernel_rfl) ?_
                have H := H.drew
                refine k_rd rfl rfl (RS.of rfl rfl (x_move h11)) ?_
                refine k_rd rfl rfl (RS.of rfl rfl (x_move h10b)) ?_
                refine k_rd rfl rfl (RS.of rfl rfl (x_lenSlice Tryz.underlying38 rfl rfl)) ?_
                refine k_rdD rfl rfl rfl rfl (x_geq rfl rfl) (fun h69 => ?_) (fun h69 => ?_)
                ·
                  exact absurd h69 (by omega)
                ·
                  refine k_rd rfl rfl (RS.of rfl rfl (x_move (by conv => lhs; whnf))) ?_
                  refine k_rd rfl rfl (RS.yes rfl (wantY rfl rfl rfl) (x_move h10b)) ?_
                  refine k_rd rfl rfl (RS.yes rfl (wantY rfl rfl rfl) (x_move h11)) ?_
                  refine k_rd rfl rfl (RS.yes rfl (wantY rfl rfl rfl) (x_indexAddr Tryz.underlying38 ty43 rfl rfl (by omega) (by omega))) ?_
                  refine k_rd rfl rfl (RS.yes rfl (wantY rfl rfl rfl) (x_loadF (vs := [_, _, _]) Tryz.underlying43 rfl ty43 rfl rfl (sub_row 0 (RdS.at pcC_len hr2 hp2) rfl))) ?_
                  refine k_rd rfl rfl (RS.yes rfl (wantY rfl rfl rfl) (x_move h9b)) ?_
                  refine k_rd rfl rfl (RS.yes rfl (wantY rfl rfl rfl) (x_move h12)) ?_
                  refine k_rd rfl rfl (RS.yes rfl (wantY rfl rfl rfl) (x_indexAddr Tryz.underlying38 ty43 rfl rfl (by omega) (by omega))) ?_
                  refine k_rd rfl rfl (RS.yes rfl (wantY rfl rfl rfl) (x_loadF (vs := [_, _, _]) Tryz.underlying43 rfl ty43 rfl rfl (sub_row 0 (RdS.at pcC_len hr1 hp) rfl))) ?_
                  refine k_rdD rfl rfl (wantY rfl rfl rfl) rfl (x_neqA (by kernel_rfl) rfl rfl eq43) (fun h79 => ?_) (fun h79 => ?_)
                  ·
                    exact absurd rfl h79
                  ·
                    refine k_rd rfl rfl (RS.of rfl rfl (x_pick0 rfl (by conv => lhs; whnf))) ?_
                    show _
                    refine WC.cond0 rfl ?_
                    refine WC.skip ?_
                    refine WC.region ?_
                    refine l_rd rfl rfl (x_move h11) ?_
                    refine l_rd rfl rfl (x_add rfl rfl (by omega) (by omega)) ?_
                    refine l_rd rfl rfl (x_assign (by conv => lhs; whnf)) ?_
                    refine WL.nil ?_
                    refine WC.region ?_
                    refine l_rd rfl rfl (x_move h12) ?_
                    refine l_rd rfl rfl (x_add rfl rfl (by omega) (by omega)) ?_
                    refine l_rd rfl rfl (x_assign (by conv => lhs; whnf)) ?_
                    refine WL.nil ?_
                    refine WC.again (⟨m + 1, j + 1, by omega, by rw [hj]; exact (flt_y hp hfp).symm, by omega, rfl, rfl, h9, h10, h8, h7, h1, h5, rfl, Hd.arrT [_, _, _, _, _, _, _, _, _, _, _, _] [0, 1, 2, 3, 4, 5, 6, 7, 8, 9, 10, 11] (by decide) rfl H⟩) (by show _ - _ < _ - _; rw [h12o]; show l1.length - ((m : Int) + 1).toNat < l1.length - (m : Int).toNat; omega)
            ·
              refine WL.nil ?_
              refine WC.cond0 rfl ?_
              refine WC.exit ?_
              refine WC.seq ?_
              refine WC.seq ?_
              refine WC.region ?_
              refine l_rd rfl rfl (x_move h11) ?_
              refine l_rd rfl rfl (x_move h10) ?_
              refine l_rd rfl rfl (x_lenSlice Tryz.underlying38 rfl rfl) ?_
              refine l_rdD rfl rfl (x_neq rfl rfl) (fun h86 => ?_) (fun h86 => ?_)
              ·
                exact absurd (show (j : Int) = l2.length by rw [hj, hl2, flt_end (by omega)]) h86
              ·
                refine WL.nil ?_
                refine WC.cond0 rfl ?_
                refine WC.skip ?_
                refine WC.exit ?_
                refine WC.region ?_
                refine l_rd rfl rfl (x_move h7) ?_
                refine l_rd rfl rfl (x_add rfl rfl (by omega) (by omega)) ?_
                refine l_rd rfl rfl (x_assign (by conv => lhs; whnf)) ?_
                refine WL.nil ?_
                refine WC.again (⟨k + 1, _, _, _, _, _, _, by omega, by omega, hR2, rfl, h1, h5, rfl, Hd.arrT [_, _, _, _, _, _, _, _, _, _, _, _] [3, 4, 5, 6, 7, 8, 9, 10, 11] (by decide) rfl H⟩) (by show _ - _ < _ - _; rw [h7o]; show dd.length - ((k : Int) + 1).toNat < dd.length - (k : Int).toNat; omega)
          ·
            refine WL.nil ?_
            refine WC.cond0 rfl ?_
            refine WC.skip ?_
            refine WC.seq ?_
            refine WC.region ?_
            refine l_rd rfl rfl (x_move h5) ?_
            refine l_rd rfl rfl (x_fieldAddr (k := 2) Tryz.underlying37 rfl rfl ty35 (by decide) rfl) ?_
            refine l_rd rfl rfl (x_loadF (vs := [_, _, _, _, _]) Tryz.underlying35 rfl ty35 rfl rfl (H.cellsL 9 rfl rfl)) ?_
            refine l_st rfl (s_callL cal12 (c12 (e := d.e) (X := fr w0) _ hR hA (by omega) (pv_one hxs) (fun w1 L1 H1 => (H1.old 0 rfl).rdS hxs) hsz (Hd.arrT [_, _, _, _, _, _, _, _, _, _, _] [1, 2, 3, 4, 5, 6, 7, 8, 10, 0, 9] (by decide) rfl H)) ?_)
            rintro _ w ⟨v13, er, rfl, ⟨her, rfl, hwhy, H⟩ | ⟨rfl, n2, lk2, vs2, l3, k1, k2, k3, hR2, hlk2, hm1, hm0, hS3, H⟩⟩
            ·
              obtain ⟨l3, hl3⟩ : ∃ l : List Pc, l = [] := ⟨_, rfl⟩
              have H := Hd.nilE hl3 H
              have hRx := hR
              have hS3 : Shw l3 (chg (rT em A n vs) (rT em A n vs)) := by rw [hl3, chg_self]; exact ⟨List.Pairwise.nil, fun p => ⟨fun h => (by cases h), fun h => (by cases h)⟩⟩
              refine l_rd rfl rfl (x_move (by conv => lhs; whnf)) ?_
              refine l_rd rfl rfl (x_extract rfl rfl) ?_
              refine l_rd rfl rfl (x_extract rfl rfl) ?_
              refine l_rd rfl rfl (x_assign (by conv => lhs; whnf)) ?_
              refine l_rd rfl rfl (x_assign (by conv => lhs; whnf)) ?_
              refine WL.nil ?_
              refine WC.seq ?_
              refine WC.region ?_
              refine l_rd rfl rfl (x_move h5) ?_
              refine l_st rfl (s_callL cal9 (c9 _ hRx hA (by first | omega | (rw [List.length_cons]; omega)) (Hd.arrT [_, _, _, _, _, _, _, _, _, _, _, _] [1, 2, 3, 4, 5, 6, 7, 8, 0, 9, 10, 11] (by decide) rfl H)) ?_)
              rintro v95 w ⟨l2, hS2, hB2, H⟩
              obtain ⟨a2, z2, rfl⟩ := (H.sl 0 rfl).shape
              refine l_rd rfl rfl (x_assign (by conv => lhs; whnf)) ?_
              refine WL.nil ?_
              refine WC.seq ?_
              refine WC.region ?_
              refine l_rd rfl rfl (x_assign ev_c) ?_
              refine WL.nil ?_
              refine WC.seq ?_
              refine WC.seq ?_
              refine WC.region ?_
              refine l_rd rfl rfl (x_assign ev_c) ?_
              refine WL.nil ?_
              refine WC.block ?_
              obtain ⟨fc, hfc⟩ : ∃ fc : Pc → Bool, fc = fun q => !decide (q ∈ l1) := ⟨_, rfl⟩
              have hq : l3 = l2.filter fc := hS3.uniq (hS2.filter fun p => by
                rw [chg_some, hfc]
                have h9 := hS1.iff p
                by_cases h8 : p ∈ l1
                · simp [h8, h9.1 h8]
                · have h7 : ¬ rT em A n vs (p.src, p.dst) = some p.time := fun h => h8 (h9.2 h)
                  simp [h8, h7])
              have hl3f : l3.length = (l2.filter fc).length := by rw [← hq]
              have hl3b : l3.length ≤ 2000 := by rw [hl3f]; exact Nat.le_trans (List.length_filter_le _ _) hB2
              refine WC.loop (fun ρ ds w => ∃ (m j : Nat) (v3 : Value), m ≤ l2.length ∧ j = ((l2.take m).filter fc).length ∧ j ≤ l3.length ∧ ρ 17 = I m ∧ ρ 16 = I j ∧ ρ 9 = .slice a1 l1.length z1 ∧ ρ 15 = .slice a2 l2.length z2 ∧ ρ 13 = v3 ∧ ρ 8 = .pointer (some ⟨b8, 0, none⟩) ∧ ρ 7 = I k ∧ ρ 1 = .slice al dd.length cl ∧ ρ 5 = .pointer (some ⟨ro, 0, none⟩) ∧ ds = [] ∧ Hd (sy w0) w [Sl (.slice a1 l1.length z1) 43 3 l1.length (l1.flatMap pcC), Sl (.slice a2 l2.length z2) 43 3 l2.length (l2.flatMap pcC), Sl v3 43 3 l3.length (l3.flatMap pcC), pt b8 (.cells (deC d).toArray 37 (0, 0)), pt ro (.cells #[.map (some mv), .pointer (some ⟨a, 0, none⟩), .pointer (some ⟨f, 0, none⟩)] 81 (0, 0)), Mp TS mv (vs.map (gval I)), pt f (.cells (foC a mn ml cut last).toArray 143 (0, 0)), Mp TSp mn (n.map (gval pI)), IM TS I n, Mp TS ml (lk.map (gval pI)), IM TLk I lk, fz g, fr w0]) (fun ρ w => l2.length - (match ρ 17 with | .int _ k => k.toNat | _ => 0)) (⟨0, 0, _, Nat.zero_le _, rfl, Nat.zero_le _, rfl, rfl, rfl, rfl, rfl, rfl, h7, h1, h5, rfl, Hd.arrT [_, _, _, _, _, _, _, _, _, _, _, _, _] [11, 0, 9, 12, 1, 2, 3, 4, 5, 6, 7, 8, 10] (by decide) rfl H⟩) ?_
              repeat clear H
              rintro ρ ds w ⟨m, j, v3, hm, hj, hj2, h17, h16, h9, h15, h13, h8, h7, h1, h5, rfl, H⟩
              have h17o := h17
              obtain ⟨a3, z3, rfl⟩ := (H.sl 2 rfl).shape
              refine WC.seq ?_
              refine WC.seq ?_
              refine WC.region ?_
              refine l_rd rfl rfl (x_move h17) ?_
              refine l_rd rfl rfl (x_move h15) ?_
              refine l_rd rfl rfl (x_lenSlice Tryz.underlying38 rfl rfl) ?_
              refine l_rdD rfl rfl (x_lss rfl rfl) (fun h99 => ?_) (fun h99 => ?_)
              ·
                refine WL.nil ?_
                refine WC.cond1 rfl ?_
                refine WC.skip ?_
                refine WC.seq ?_
                refine WC.block ?_
                refine WC.seq ?_
                refine WC.seq ?_
                obtain ⟨p, hp⟩ := lt_get (show m < l2.length by omega)
                have hr2 := (show RdS w (.slice a2 l2.length z2) 3 pcC l2 from H.sl 1 rfl)
                obtain ⟨bt, ot, hat, -⟩ := hr2.el pcC_len hp
                rw [hat] at hr2
                have h15b := h15
                rw [hat] at h15b
                refine WC.region ?_
                refine l_rd rfl rfl (x_move h9) ?_
                refine l_rd rfl rfl (x_move h15b) ?_
                refine l_rd rfl rfl (x_move h17) ?_
                refine l_rd rfl rfl (x_indexAddr Tryz.underlying38 ty43 rfl rfl (by omega) (by omega)) ?_
                refine l_rd rfl rfl (x_loadF (vs := [_, _, _]) Tryz.underlying43 rfl ty43 rfl rfl (sub_row 0 (RdS.at pcC_len hr2 hp) rfl)) ?_
                refine l_st rfl (s_callA cal13 (ev_cons rfl (ev_cons rfl rfl)) (c13 (l := l1) (p := p) _ (show RdS w (.slice a1 l1.length z1) 3 pcC l1 from H.sl 0 rfl)) ?_)
                rintro _ w ⟨rfl, e1x⟩
                have H := H.ext e1x
                by_cases ham : p ∈ l1
                ·
                  rw [decide_eq_true ham]
                  have hfp : fc p = false := by rw [hfc]; simp [ham]
                  refine WL.nil ?_
                  refine WC.cond1 rfl ?_
                  refine WC.exit ?_
                  refine WC.region ?_
                  refine l_rd rfl rfl (x_move h17) ?_
                  refine l_rd rfl rfl (x_add rfl rfl (by omega) (by omega)) ?_
                  refine l_rd rfl rfl (x_assign (by conv => lhs; whnf)) ?_
                  refine WL.nil ?_
                  refine WC.again (⟨m + 1, j, _, by omega, by rw [hj]; exact (flt_n hp hfp).symm, hj2, rfl, h16, h9, h15, h13, h8, h7, h1, h5, rfl, Hd.arrT [_, _, _, _, _, _, _, _, _, _, _, _, _] [0, 1, 2, 3, 4, 5, 6, 7, 8, 9, 10, 11, 12] (by decide) rfl H⟩) (by show _ - _ < _ - _; rw [h17o]; show l2.length - ((m : Int) + 1).toNat < l2.length - (m : Int).toNat; omega)
                ·
                  rw [decide_eq_false ham]
                  have hfp : fc p = true := by rw [hfc]; simp [ham]
                  have hp2 : l3[j]? = some p := by rw [hq, hj]; exact flt_at hp hfp
                  have hjl := (List.getElem?_eq_some_iff.1 hp2).1
                  refine WL.nil ?_
                  refine WC.cond0 rfl ?_
                  refine WC.skip ?_
                  refine WC.seq ?_
                  refine WC.seq ?_
                  have hr2 := (show RdS w (.slice a2 l2.length z2) 3 pcC l2 from H.sl 1 rfl)
                  rw [hat] at hr2
                  have hr3 := (show RdS w (.slice a3 l3.length z3) 3 pcC l3 from H.sl 2 rfl)
                  obtain ⟨bu, ou, hau, -⟩ := hr3.el pcC_len hp2
                  rw [hau] at hr3
                  have h13b := h13
                  rw [hau] at h13b
                  refine WC.draw mixed [] [[], [], [1], [0, 1, 2], [0, 1, 2, 3], [0, 1, 2, 3, 4], [0, 1, 2, 3, 4], [0, 1, 2, 3, 4, 5, 6], [0, 1, 2, 3, 4, 5, 6, 7], [0, 1, 2, 3, 4], [0, 1, 2, 3, 4], [0, 1, 2, 3, 4, 9, 10], [0, 1, 2, 3, 4, 9, 10, 11], [0, 1, 2, 3, 4, 5, 6, 7, 8, 9, 10, 11, 12], [0, 1, 2, 3, 4, 5, 6, 7, 8, 9, 10, 11, 12, 13]] [0, 1, 2, 3, 4, 5, 6, 7, 8, 9, 10, 11, 12, 13, 14] (by kernel_rfl) ?_
                  have H := H.drew
                  refine k_rd rfl rfl (RS.of rfl rfl (x_move h16)) ?_
                  refine k_rd rfl rfl (RS.of rfl rfl (x_move h13b)) ?_
                  refine k_rd rfl rfl (RS.of rfl rfl (x_lenSlice Tryz.underlying38 rfl rfl)) ?_
                  refine k_rdD rfl rfl rfl rfl (x_geq rfl rfl) (fun h111 => ?_) (fun h111 => ?_)
                  ·
                    exact absurd h111 (by omega)
                  ·
                    refine k_rd rfl rfl (RS.of rfl rfl (x_move (by conv => lhs; whnf))) ?_
                    refine k_rd rfl rfl (RS.yes rfl (wantY rfl rfl rfl) (x_move h13b)) ?_
                    refine k_rd rfl rfl (RS.yes rfl (wantY rfl rfl rfl) (x_move h16)) ?_
                    refine k_rd rfl rfl (RS.yes rfl (wantY rfl rfl rfl) (x_indexAddr Tryz.underlying38 ty43 rfl rfl (by omega) (by omega))) ?_
                    refine k_rd rfl rfl (RS.yes rfl (wantY rfl rfl rfl) (x_loadF (vs := [_, _, _]) Tryz.underlying43 rfl ty43 rfl rfl (sub_row 0 (RdS.at pcC_len hr3 hp2) rfl))) ?_
                    refine k_rd rfl rfl (RS.yes rfl (wantY rfl rfl rfl) (x_move h15b)) ?_
                    refine k_rd rfl rfl (RS.yes rfl (wantY rfl rfl rfl) (x_move h17)) ?_
                    refine k_rd rfl rfl (RS.yes rfl (wantY rfl rfl rfl) (x_indexAddr Tryz.underlying38 ty43 rfl rfl (by omega) (by omega))) ?_
                    refine k_rd rfl rfl (RS.yes rfl (wantY rfl rfl rfl) (x_loadF (vs := [_, _, _]) Tryz.underlying43 rfl ty43 rfl rfl (sub_row 0 (RdS.at pcC_len hr2 hp) rfl))) ?_
                    refine k_rdD rfl rfl (wantY rfl rfl rfl) rfl (x_neqA (by kernel_rfl) rfl rfl eq43) (fun h121 => ?_) (fun h121 => ?_)
                    ·
                      exact absurd rfl h121
                    ·
                      refine k_rd rfl rfl (RS.of rfl rfl (x_pick0 rfl (by conv => lhs; whnf))) ?_
                      show _
                      refine WC.cond0 rfl ?_
                      refine WC.skip ?_
                      refine WC.region ?_
                      refine l_rd rfl rfl (x_move h16) ?_
                      refine l_rd rfl rfl (x_add rfl rfl (by omega) (by omega)) ?_
                      refine l_rd rfl rfl (x_assign (by conv => lhs; whnf)) ?_
                      refine WL.nil ?_
                      refine WC.region ?_
                      refine l_rd rfl rfl (x_move h17) ?_
                      refine l_rd rfl rfl (x_add rfl rfl (by omega) (by omega)) ?_
                      refine l_rd rfl rfl (x_assign (by conv => lhs; whnf)) ?_
                      refine WL.nil ?_
                      refine WC.again (⟨m + 1, j + 1, _, by omega, by rw [hj]; exact (flt_y hp hfp).symm, by omega, rfl, rfl, h9, h15, h13, h8, h7, h1, h5, rfl, Hd.arrT [_, _, _, _, _, _, _, _, _, _, _, _, _] [0, 1, 2, 3, 4, 5, 6, 7, 8, 9, 10, 11, 12] (by decide) rfl H⟩) (by show _ - _ < _ - _; rw [h17o]; show l2.length - ((m : Int) + 1).toNat < l2.length - (m : Int).toNat; omega)
              ·
                refine WL.nil ?_
                refine WC.cond0 rfl ?_
                refine WC.exit ?_
                refine WC.seq ?_
                refine WC.region ?_
                refine l_rd rfl rfl (x_move h16) ?_
                refine l_rd rfl rfl (x_move h13) ?_
                refine l_rd rfl rfl (x_lenSlice Tryz.underlying38 rfl rfl) ?_
                refine l_rdD rfl rfl (x_neq rfl rfl) (fun h128 => ?_) (fun h128 => ?_)
                ·
                  exact absurd (show (j : Int) = l3.length by rw [hj, hl3f, flt_end (by omega)]) h128
                ·
                  refine WL.nil ?_
                  refine WC.cond0 rfl ?_
                  refine WC.skip ?_
                  refine WC.region ?_
                  refine l_rd rfl rfl (x_move h7) ?_
                  refine l_rd rfl rfl (x_add rfl rfl (by omega) (by omega)) ?_
                  refine l_rd rfl rfl (x_assign (by conv => lhs; whnf)) ?_
                  refine WL.nil ?_
                  refine WC.again (⟨k + 1, E, cut, last, lk, n, vs, by omega, by omega, hR, rfl, h1, h5, rfl, Hd.arrT [_, _, _, _, _, _, _, _, _, _, _, _, _] [4, 5, 6, 7, 8, 9, 10, 11, 12] (by decide) rfl H⟩) (by show _ - _ < _ - _; rw [h7o]; show dd.length - ((k : Int) + 1).toNat < dd.length - (k : Int).toNat; omega)
            ·
              have hRx := hR2
              refine l_rd rfl rfl (x_move (by conv => lhs; whnf)) ?_
              refine l_rd rfl rfl (x_extract rfl rfl) ?_
              refine l_rd rfl rfl (x_extract rfl rfl) ?_
              refine l_rd rfl rfl (x_assign (by conv => lhs; whnf)) ?_
              refine l_rd rfl rfl (x_assign (by conv => lhs; whnf)) ?_
              refine WL.nil ?_
              refine WC.seq ?_
              refine WC.region ?_
              refine l_rd rfl rfl (x_move h5) ?_
              refine l_st rfl (s_callL cal9 (c9 _ hRx hA (by first | omega | (rw [List.length_cons]; omega)) (Hd.arrT [_, _, _, _, _, _, _, _, _, _, _, _] [1, 2, 3, 4, 5, 6, 7, 8, 0, 9, 10, 11] (by decide) rfl H)) ?_)
              rintro v95 w ⟨l2, hS2, hB2, H⟩
              obtain ⟨a2, z2, rfl⟩ := (H.sl 0 rfl).shape
              refine l_rd rfl rfl (x_assign (by conv => lhs; whnf)) ?_
              refine WL.nil ?_
              refine WC.seq ?_
              refine WC.region ?_
              refine l_rd rfl rfl (x_assign ev_c) ?_
              refine WL.nil ?_
              refine WC.seq ?_
              refine WC.seq ?_
              refine WC.region ?_
              refine l_rd rfl rfl (x_assign ev_c) ?_
              refine WL.nil ?_
              refine WC.block ?_
              obtain ⟨fc, hfc⟩ : ∃ fc : Pc → Bool, fc = fun q => !decide (q ∈ l1) := ⟨_, rfl⟩
              have hq : l3 = l2.filter fc := hS3.uniq (hS2.filter fun p => by
                rw [chg_some, hfc]
                have h9 := hS1.iff p
                by_cases h8 : p ∈ l1
                · simp [h8, h9.1 h8]
                · have h7 : ¬ rT em A n vs (p.src, p.dst) = some p.time := fun h => h8 (h9.2 h)
                  simp [h8, h7])
              have hl3f : l3.length = (l2.filter fc).length := by rw [← hq]
              have hl3b : l3.length ≤ 2000 := by rw [hl3f]; exact Nat.le_trans (List.length_filter_le _ _) hB2
              refine WC.loop (fun ρ ds w => ∃ (m j : Nat) (v3 : Value), m ≤ l2.length ∧ j = ((l2.take m).filter fc).length ∧ j ≤ l3.length ∧ ρ 17 = I m ∧ ρ 16 = I j ∧ ρ 9 = .slice a1 l1.length z1 ∧ ρ 15 = .slice a2 l2.length z2 ∧ ρ 13 = v3 ∧ ρ 8 = .pointer (some ⟨b8, 0, none⟩) ∧ ρ 7 = I k ∧ ρ 1 = .slice al dd.length cl ∧ ρ 5 = .pointer (some ⟨ro, 0, none⟩) ∧ ds = [] ∧ Hd (sy w0) w [Sl (.slice a1 l1.length z1) 43 3 l1.length (l1.flatMap pcC), Sl (.slice a2 l2.length z2) 43 3 l2.length (l2.flatMap pcC), Sl v3 43 3 l3.length (l3.flatMap pcC), pt b8 (.cells (deC d).toArray 37 (0, 0)), pt ro (.cells #[.map (some mv), .pointer (some ⟨a, 0, none⟩), .pointer (some ⟨f, 0, none⟩)] 81 (0, 0)), Mp TS mv (vs2.map (gval I)), pt f (.cells (foC a mn ml cut d.e.time).toArray 143 (0, 0)), Mp TSp mn (n2.map (gval pI)), IM TS I n2, Mp TS ml (lk2.map (gval pI)), IM TLk I lk2, fz g, fr w0]) (fun ρ w => l2.length - (match ρ 17 with | .int _ k => k.toNat | _ => 0)) (⟨0, 0, _, Nat.zero_le _, rfl, Nat.zero_le _, rfl, rfl, rfl, rfl, rfl, rfl, h7, h1, h5, rfl, Hd.arrT [_, _, _, _, _, _, _, _, _, _, _, _, _] [11, 0, 9, 12, 1, 2, 3, 4, 5, 6, 7, 8, 10] (by decide) rfl H⟩) ?_
              repeat clear H
              rintro ρ ds w ⟨m, j, v3, hm, hj, hj2, h17, h16, h9, h15, h13, h8, h7, h1, h5, rfl, H⟩
              have h17o := h17
              obtain ⟨a3, z3, rfl⟩ := (H.sl 2 rfl).shape
              refine WC.seq ?_
              refine WC.seq ?_
              refine WC.region ?_
              refine l_rd rfl rfl (x_move h17) ?_
              refine l_rd rfl rfl (x_move h15) ?_
              refine l_rd rfl rfl (x_lenSlice Tryz.underlying38 rfl rfl) ?_
              refine l_rdD rfl rfl (x_lss rfl rfl) (fun h99 => ?_) (fun h99 => ?_)
              ·
                refine WL.nil ?_
                refine WC.cond1 rfl ?_
                refine WC.skip ?_
                refine WC.seq ?_
                refine WC.block ?_
                refine WC.seq ?_
                refine WC.seq ?_
                obtain ⟨p, hp⟩ := lt_get (show m < l2.length by omega)
                have hr2 := (show RdS w (.slice a2 l2.length z2) 3 pcC l2 from H.sl 1 rfl)
                obtain ⟨bt, ot, hat, -⟩ := hr2.el pcC_len hp
                rw [hat] at hr2
                have h15b := h15
                rw [hat] at h15b
                refine WC.region ?_
                refine l_rd rfl rfl (x_move h9) ?_
                refine l_rd rfl rfl (x_move h15b) ?_
                refine l_rd rfl rfl (x_move h17) ?_
                refine l_rd rfl rfl (x_indexAddr Tryz.underlying38 ty43 rfl rfl (by omega) (by omega)) ?_
                refine l_rd rfl rfl (x_loadF (vs := [_, _, _]) Tryz.underlying43 rfl ty43 rfl rfl (sub_row 0 (RdS.at pcC_len hr2 hp) rfl)) ?_
                refine l_st rfl (s_callA cal13 (ev_cons rfl (ev_cons rfl rfl)) (c13 (l := l1) (p := p) _ (show RdS w (.slice a1 l1.length z1) 3 pcC l1 from H.sl 0 rfl)) ?_)
                rintro _ w ⟨rfl, e1x⟩
                have H := H.ext e1x
                by_cases ham : p ∈ l1
                ·
                  rw [decide_eq_true ham]
                  have hfp : fc p = false := by rw [hfc]; simp [ham]
                  refine WL.nil ?_
                  refine WC.cond1 rfl ?_
                  refine WC.exit ?_
                  refine WC.region ?_
                  refine l_rd rfl rfl (x_move h17) ?_
                  refine l_rd rfl rfl (x_add rfl rfl (by omega) (by omega)) ?_
                  refine l_rd rfl rfl (x_assign (by conv => lhs; whnf)) ?_
                  refine WL.nil ?_
                  refine WC.again (⟨m + 1, j, _, by omega, by rw [hj]; exact (flt_n hp hfp).symm, hj2, rfl, h16, h9, h15, h13, h8, h7, h1, h5, rfl, Hd.arrT [_, _, _, _, _, _, _, _, _, _, _, _, _] [0, 1, 2, 3, 4, 5, 6, 7, 8, 9, 10, 11, 12] (by decide) rfl H⟩) (by show _ - _ < _ - _; rw [h17o]; show l2.length - ((m : Int) + 1).toNat < l2.length - (m : Int).toNat; omega)
                ·
                  rw [decide_eq_false ham]
                  have hfp : fc p = true := by rw [hfc]; simp [ham]
                  have hp2 : l3[j]? = some p := by rw [hq, hj]; exact flt_at hp hfp
                  have hjl := (List.getElem?_eq_some_iff.1 hp2).1
                  refine WL.nil ?_
                  refine WC.cond0 rfl ?_
                  refine WC.skip ?_
                  refine WC.seq ?_
                  refine WC.seq ?_
                  have hr2 := (show RdS w (.slice a2 l2.length z2) 3 pcC l2 from H.sl 1 rfl)
                  rw [hat] at hr2
                  have hr3 := (show RdS w (.slice a3 l3.length z3) 3 pcC l3 from H.sl 2 rfl)
                  obtain ⟨bu, ou, hau, -⟩ := hr3.el pcC_len hp2
                  rw [hau] at hr3
                  have h13b := h13
                  rw [hau] at h13b
                  refine WC.draw mixed [] [[], [], [1], [0, 1, 2], [0, 1, 2, 3], [0, 1, 2, 3, 4], [0, 1, 2, 3, 4], [0, 1, 2, 3, 4, 5, 6], [0, 1, 2, 3, 4, 5, 6, 7], [0, 1, 2, 3, 4], [0, 1, 2, 3, 4], [0, 1, 2, 3, 4, 9, 10], [0, 1, 2, 3, 4, 9, 10, 11], [0, 1, 2, 3, 4, 5, 6, 7, 8, 9, 10, 11, 12], [0, 1, 2, 3, 4, 5, 6, 7, 8, 9, 10, 11, 12, 13]] [0, 1, 2, 3, 4, 5, 6, 7, 8, 9, 10, 11, 12, 13, 14] (by kernel_rfl) ?_
                  have H := H.drew
                  refine k_rd rfl rfl (RS.of rfl rfl (x_move h16)) ?_
                  refine k_rd rfl rfl (RS.of rfl rfl (x_move h13b)) ?_
                  refine k_rd rfl rfl (RS.of rfl rfl (x_lenSlice Tryz.underlying38 rfl rfl)) ?_
                  refine k_rdD rfl rfl rfl rfl (x_geq rfl rfl) (fun h111 => ?_) (fun h111 => ?_)
                  ·
                    exact absurd h111 (by omega)
                  ·
                    refine k_rd rfl rfl (RS.of rfl rfl (x_move (by conv => lhs; whnf))) ?_
                    refine k_rd rfl rfl (RS.yes rfl (wantY rfl rfl rfl) (x_move h13b)) ?_
                    refine k_rd rfl rfl (RS.yes rfl (wantY rfl rfl rfl) (x_move h16)) ?_
                    refine k_rd rfl rfl (RS.yes rfl (wantY rfl rfl rfl) (x_indexAddr Tryz.underlying38 ty43 rfl rfl (by omega) (by omega))) ?_
                    refine k_rd rfl rfl (RS.yes rfl (wantY rfl rfl rfl) (x_loadF (vs := [_, _, _]) Tryz.underlying43 rfl ty43 rfl rfl (sub_row 0 (RdS.at pcC_len hr3 hp2) rfl))) ?_
                    refine k_rd rfl rfl (RS.yes rfl (wantY rfl rfl rfl) (x_move h15b)) ?_
                    refine k_rd rfl rfl (RS.yes rfl (wantY rfl rfl rfl) (x_move h17)) ?_
                    refine k_rd rfl rfl (RS.yes rfl (wantY rfl rfl rfl) (x_indexAddr Tryz.underlying38 ty43 rfl rfl (by omega) (by omega))) ?_
                    refine k_rd rfl rfl (RS.yes rfl (wantY rfl rfl rfl) (x_loadF (vs := [_, _, _]) Tryz.underlying43 rfl ty43 rfl rfl (sub_row 0 (RdS.at pcC_len hr2 hp) rfl))) ?_
                    refine k_rdD rfl rfl (wantY rfl rfl rfl) rfl (x_neqA (by kernel_rfl) rfl rfl eq43) (fun h121 => ?_) (fun h121 => ?_)
                    ·
                      exact absurd rfl h121
                    ·
                      refine k_rd rfl rfl (RS.of rfl rfl (x_pick0 rfl (by conv => lhs; whnf))) ?_
                      show _
                      refine WC.cond0 rfl ?_
                      refine WC.skip ?_
                      refine WC.region ?_
                      refine l_rd rfl rfl (x_move h16) ?_
                      refine l_rd rfl rfl (x_add rfl rfl (by omega) (by omega)) ?_
                      refine l_rd rfl rfl (x_assign (by conv => lhs; whnf)) ?_
                      refine WL.nil ?_
                      refine WC.region ?_
                      refine l_rd rfl rfl (x_move h17) ?_
                      refine l_rd rfl rfl (x_add rfl rfl (by omega) (by omega)) ?_
                      refine l_rd rfl rfl (x_assign (by conv => lhs; whnf)) ?_
                      refine WL.nil ?_
                      refine WC.again (⟨m + 1, j + 1, _, by omega, by rw [hj]; exact (flt_y hp hfp).symm, by omega, rfl, rfl, h9, h15, h13, h8, h7, h1, h5, rfl, Hd.arrT [_, _, _, _, _, _, _, _, _, _, _, _, _] [0, 1, 2, 3, 4, 5, 6, 7, 8, 9, 10, 11, 12] (by decide) rfl H⟩) (by show _ - _ < _ - _; rw [h17o]; show l2.length - ((m : Int) + 1).toNat < l2.length - (m : Int).toNat; omega)
              ·
                refine WL.nil ?_
                refine WC.cond0 rfl ?_
                refine WC.exit ?_
                refine WC.seq ?_
                refine WC.region ?_
                refine l_rd rfl rfl (x_move h16) ?_
                refine l_rd rfl rfl (x_move h13) ?_
                refine l_rd rfl rfl (x_lenSlice Tryz.underlying38 rfl rfl) ?_
                refine l_rdD rfl rfl (x_neq rfl rfl) (fun h128 => ?_) (fun h128 => ?_)
                ·
                  exact absurd (show (j : Int) = l3.length by rw [hj, hl3f, flt_end (by omega)]) h128
                ·
                  refine WL.nil ?_
                  refine WC.cond0 rfl ?_
                  refine WC.skip ?_
                  refine WC.region ?_
                  refine l_rd rfl rfl (x_move h7) ?_
                  refine l_rd rfl rfl (x_add rfl rfl (by omega) (by omega)) ?_
                  refine l_rd rfl rfl (x_assign (by conv => lhs; whnf)) ?_
                  refine WL.nil ?_
                  refine WC.again (⟨k + 1, _, _, _, _, _, _, by omega, by rw [List.length_cons]; omega, hR2, rfl, h1, h5, rfl, Hd.arrT [_, _, _, _, _, _, _, _, _, _, _, _, _] [4, 5, 6, 7, 8, 9, 10, 11, 12] (by decide) rfl H⟩) (by show _ - _ < _ - _; rw [h7o]; show dd.length - ((k : Int) + 1).toNat < dd.length - (k : Int).toNat; omega)
        ·
          refine WL.nil ?_
          refine WC.cond0 rfl ?_
          refine WC.exit ?_
          refine WC.seq ?_
          refine WC.region ?_
          refine l_rd rfl rfl (x_assign ev_c) ?_
          refine WL.nil ?_
          refine WC.ret ?_
          refine atRet ?_
          exact RetM.one rfl (by (conv => lhs; whnf); try rfl) (⟨rfl, H.below 8 rfl⟩)
  ·
    refine WL.nil ?_
    refine WC.cond1 rfl ?_
    refine WC.seq ?_
    refine WC.region ?_
    refine l_rd rfl rfl (x_assign ev_c) ?_
    refine WL.nil ?_
    refine WC.ret ?_
    refine atRet ?_
    exact RetM.one rfl (by (conv => lhs; whnf); try rfl) (⟨rfl, H.below 1 rfl⟩)
end Go.Proofs.YteibnmkikdbndaaGreatDoor
namespace Go.Proofs.YteibnmkikdbndaaGreatDoor
open Go Go.RowKit KE Go.ChangeShapes Go.WideShapes Go.ChangeAt Go.ChangeMaps
section
variable {H : Type} {enc : TypeId × Value → H} {P : Program} {w : World} {held : Bool}
theorem add_add (a : Addr) (m n : Nat) : (a.add m).add n = a.add (m + n) := by
  unfold Addr.add
  by_cases hm : m = 0 <;> by_cases hn : n = 0 <;> simp [hm, hn, Nat.add_assoc]
theorem open_rows {α : Type} {t e : TypeId} {sz fuel : Nat} {v : Value} {x : DataW H × List MemPlace} {f : α → List Value} {φ : α → Prop} (hfl : ∀ a, (f a).length = sz) (hsz : 0 < sz) (ht : P.underlying t = some (.slice e)) (hc : P.cellsOf e = sz) (hb : 0 < P.bytesOf e) (z : α)
    (hf : ∀ (n : Nat) (cs : List Value) (y : DataW H × List MemPlace), SizeOf.sizeOf y.1 < SizeOf.sizeOf x.1 → DataW.trod enc P w 0 (fun _ => true) held n e cs = some y → (∀ n ∈ y.1.weights P e, n ≤ reachBytes) → ∃ a, cs = f a ∧ φ a)
    (h : DataW.trod enc P w 0 (fun _ => true) held fuel t [v] = some x) (hw : ∀ n ∈ x.1.weights P t, n ≤ reachBytes) : ∃ xs : List α, RdS w v sz f xs ∧ ∀ a ∈ xs, φ a := by
  rcases Go.Deep.open_slice ht h with ⟨hcs, hx⟩ | ⟨a, len, cap, m, n, D, Pl, hcs, _, hl, hm, hmm, hx, hel⟩
  · simp only [List.cons.injEq, and_true] at hcs
    subst hcs
    exact ⟨[], ⟨⟨by simp, by simp⟩, .inl ⟨rfl, _, _, rfl⟩⟩, fun a h => by cases h⟩
  · simp only [List.cons.injEq, and_true] at hcs
    subst hcs hx
    simp only [if_true] at hmm
    have hcp := cap_le ht hb hw
    simp only [List.length_map, List.length_range] at hcp
    have hex : ∀ i, i < len → ∃ b, (∀ r, r < sz → w.cell? (a.add (i * sz + r)) = (f b)[r]?) ∧ φ b := fun i hi => by
      obtain ⟨cs, h1, h2⟩ := hel i (by omega)
      obtain ⟨b, rfl, hφ⟩ := hf n cs _ (by
        have h9 : D i ∈ (List.range len).map D := List.mem_map.2 ⟨i, List.mem_range.2 hi, rfl⟩
        have h8 := List.sizeOf_lt_of_mem h9
        simp only [DataW.slice.sizeOf_spec]; omega) h2 fun k hk => hw k (by
        simp only [DataW.weights, ht, List.mem_cons, List.mem_append]
        exact .inr (.inl (wAll_mem (List.mem_map.2 ⟨i, List.mem_range.2 hi, rfl⟩) k hk)))
      refine ⟨b, fun r hr => ?_, hφ⟩
      have := (World.cells?_some h1).2.2 r (by omega)
      rw [← this, hc, add_add]
    refine ⟨(List.range len).map fun i => if hi : i < len then Classical.choose (hex i hi) else z, ?_, ?_⟩
    · have hlen : ((List.range len).map fun i => if hi : i < len then Classical.choose (hex i hi) else z).length = len := by simp
      have hget : ∀ i b, ((List.range len).map fun i => if hi : i < len then Classical.choose (hex i hi) else z)[i]? = some b → ∀ r, r < sz → w.cell? (a.add (i * sz + r)) = (f b)[r]? := fun i b hib => by
        obtain ⟨h1, h2⟩ := List.getElem?_eq_some_iff.1 hib
        simp at h1 h2
        rw [dif_pos h1] at h2
        subst h2
        exact (Classical.choose_spec (hex i h1)).1
      generalize ((List.range len).map fun i => if hi : i < len then Classical.choose (hex i hi) else z) = xs at hlen hget
      unfold RdS
      have hflen := flat_len hfl xs
      have hcell : ∀ j u, (xs.flatMap f)[j]? = some u → w.cell? (a.add j) = some u := fun j u hj => by
        have hjl := (List.getElem?_eq_some_iff.1 hj).1
        rw [hflen] at hjl
        have hi : j / sz < xs.length := Nat.div_lt_of_lt_mul (by rw [Nat.mul_comm]; exact hjl)
        have hr : j % sz < sz := Nat.mod_lt _ hsz
        obtain ⟨b, hb2⟩ := lt_get hi
        have hdm : j / sz * sz + j % sz = j := by rw [Nat.mul_comm]; exact Nat.div_add_mod j sz
        obtain ⟨u2, hu2⟩ := lt_get (show j % sz < (f b).length by rw [hfl]; exact hr)
        have h1 := flat_get hfl hb2 hu2
        rw [hdm, hj] at h1
        have h2 := hget _ b hb2 _ hr
        rw [hdm, hu2] at h2
        rw [h2, h1]
      refine ⟨⟨hflen, by omega⟩, ?_⟩
      rcases Nat.eq_zero_or_pos xs.length with h0 | h0
      · exact .inl ⟨h0, some a, cap, by rw [← hlen, h0]⟩
      · right
        have hpos : 0 < (xs.flatMap f).length := by rw [hflen]; exact Nat.mul_pos h0 hsz
        have h1 := hcell 0 _ (List.getElem?_eq_getElem hpos)
        have h2 : a.spot = none := spot_of (by simpa [Addr.add] using h1)
        obtain ⟨b, o, s⟩ := a
        simp only at h2
        subst h2
        exact ⟨b, o, cap, by rw [hlen], fun j u hj => by rw [← KE.add_plain]; exact hcell j u hj⟩
    · intro b hb2
      obtain ⟨i, hi, rfl⟩ := List.mem_map.1 hb2
      have hi := List.mem_range.1 hi
      rw [dif_pos hi]
      exact (Classical.choose_spec (hex i hi)).2
theorem read_str {fuel : Nat} {cs : List Value} {y : DataW H × List MemPlace} {t : TypeId} (ht : P.underlying t = some .string) (h : DataW.trod enc P w 0 (fun _ => true) held fuel t cs = some y) (hw : ∀ n ∈ y.1.weights P t, n ≤ reachBytes) : ∃ s : ByteArray, cs = [S s] ∧ s.size ≤ 140737488355328 := by
  obtain ⟨s, rfl, rfl, _⟩ := DataW.trod_string ht h
  refine ⟨s, rfl, ?_⟩
  have := hw s.data.toList.length (by simp [DataW.weights])
  have h3 : reachBytes ≤ 140737488355328 := by decide
  have h4 : s.data.toList.length = s.size := by rw [Array.length_toList]; rfl
  omega
theorem read_int {fuel : Nat} {cs : List Value} {y : DataW H × List MemPlace} {t : TypeId} (ht : P.underlying t = some (.int .i64)) (h : DataW.trod enc P w 0 (fun _ => true) held fuel t cs = some y) : ∃ n : Int, cs = [I n] := by
  obtain ⟨n, rfl, _⟩ := DataW.trod_int ht h
  exact ⟨n, rfl⟩
theorem field_w {fs : Array Field} {t : TypeId} {ys : List (DataW H × List MemPlace)} {z : List MemPlace} (ht : P.underlying t = some (.struct fs)) (hw : ∀ n ∈ (DataW.agg (ys.map (·.1)) : DataW H).weights P t, n ≤ reachBytes) (i : Nat) {f : Field} {y : DataW H × List MemPlace} (hf : fs[i]? = some f) (hy : ys[i]? = some y) : ∀ n ∈ y.1.weights P f.type, n ≤ reachBytes := fun n hn => hw n (by
  simp only [DataW.weights, ht]
  exact DataW.weights_mem_each (j := i) (t := f.type) (by simp [hf]) (by simp [hy]) n hn)
end
theorem k3_ : Tryz.prog.cellsOf 3 = 1 := by kernel_rfl
theorem k9_ : Tryz.prog.cellsOf 9 = 1 := by kernel_rfl
theorem k22_ : Tryz.prog.cellsOf 22 = 1 := by kernel_rfl
theorem k23_ : Tryz.prog.cellsOf 23 = 1 := by kernel_rfl
theorem k25_ : Tryz.prog.cellsOf 25 = 3 := by kernel_rfl
theorem k33_ : Tryz.prog.cellsOf 33 = 1 := by kernel_rfl
theorem k35_ : Tryz.prog.cellsOf 35 = 5 := by kernel_rfl
theorem k37_ : Tryz.prog.cellsOf 37 = 7 := by kernel_rfl
theorem k183_ : Tryz.prog.cellsOf 183 = 1 := by kernel_rfl
theorem k185_ : Tryz.prog.cellsOf 185 = 3 := by kernel_rfl
theorem k187_ : Tryz.prog.cellsOf 187 = 4 := by kernel_rfl
theorem cut3 {cs : List Value} (h : cs.length = 3) : cs = (cs.drop 0).take 1 ++ ((cs.drop 1).take 1 ++ (cs.drop 2).take 1) := by
  match cs, h with | [a, b, c], _ => rfl
theorem cut4 {cs : List Value} (h : cs.length = 4) : cs = (cs.drop 0).take 1 ++ (cs.drop 1).take 3 := by
  match cs, h with | [a, b, c, d], _ => rfl
theorem cut5 {cs : List Value} (h : cs.length = 5) : cs = (cs.drop 0).take 1 ++ ((cs.drop 1).take 1 ++ ((cs.drop 2).take 1 ++ ((cs.drop 3).take 1 ++ (cs.drop 4).take 1))) := by
  match cs, h with | [a, b, c, d, e], _ => rfl
theorem last5 {cs : List Value} (h : cs.length = 5) : ∃ pv, (cs.drop 4).take 1 = [pv] := by
  match cs, h with | [a, b, c, d, e], _ => exact ⟨e, rfl⟩
theorem cut7 {cs : List Value} (h : cs.length = 7) : cs = (cs.drop 0).take 1 ++ ((cs.drop 1).take 1 ++ (cs.drop 2).take 5) := by
  match cs, h with | [a, b, c, d, e, f, g], _ => rfl
theorem last3 {cs : List Value} (h : cs.length = 3) : ∃ pv, (cs.drop 2).take 1 = [pv] := by
  match cs, h with | [a, b, c], _ => exact ⟨c, rfl⟩
section
variable {H : Type} {enc : TypeId × Value → H} {w : World} {held : Bool}
theorem some_of {α : Type} {o : Option α} {l : List α} {i : Nat} (h : o = l[i]?) (hi : i < l.length) : ∃ y, o = some y ∧ l[i]? = some y := by
  obtain ⟨y, hy⟩ := lt_get hi
  exact ⟨y, h.trans hy, hy⟩
theorem read_val {fuel : Nat} {cs : List Value} {y : DataW H × List MemPlace} (h : DataW.trod enc Tryz.prog w 0 (fun _ => true) held fuel 185 cs = some y) (hw : ∀ n ∈ y.1.weights Tryz.prog 185, n ≤ reachBytes) : ∃ (a b : Int) (s : ByteArray), cs = [I a, I b, S s] ∧ s.size ≤ 140737488355328 := by
  obtain ⟨ys, n, rfl, rfl, hl, hys, hfd⟩ := DataW.trod_struct Tryz.underlying185 h
  rw [k185_] at hl
  have h0 : DataW.trod enc Tryz.prog w 0 (fun _ => true) held n 183 ((cs.drop 0).take (Tryz.prog.cellsOf 183)) = ys[0]? := hfd 0 _ rfl
  rw [k183_] at h0
  have h1 : DataW.trod enc Tryz.prog w 0 (fun _ => true) held n 3 ((cs.drop 1).take (Tryz.prog.cellsOf 3)) = ys[1]? := hfd 1 _ rfl
  rw [k3_] at h1
  have h2 : DataW.trod enc Tryz.prog w 0 (fun _ => true) held n 9 ((cs.drop 2).take (Tryz.prog.cellsOf 9)) = ys[2]? := hfd 2 _ rfl
  rw [k9_] at h2
  obtain ⟨y0, g0, k0⟩ := some_of h0 (by rw [hys]; decide)
  obtain ⟨y1, g1, k1⟩ := some_of h1 (by rw [hys]; decide)
  obtain ⟨y2, g2, k2⟩ := some_of h2 (by rw [hys]; decide)
  obtain ⟨a, ha⟩ := read_int Tryz.underlying183 g0
  obtain ⟨b, hb⟩ := read_int Tryz.underlying3 g1
  obtain ⟨s, hs, hss⟩ := read_str Tryz.underlying9 g2 (field_w Tryz.underlying185 (z := []) hw 2 rfl k2)
  exact ⟨a, b, s, by rw [cut3 hl, ha, hb, hs]; rfl, hss⟩
theorem read_prop {fuel : Nat} {cs : List Value} {y : DataW H × List MemPlace} (h : DataW.trod enc Tryz.prog w 0 (fun _ => true) held fuel 187 cs = some y) (hw : ∀ n ∈ y.1.weights Tryz.prog 187, n ≤ reachBytes) : ∃ p : Pr, cs = prC p ∧ p.key.size ≤ 140737488355328 ∧ p.text.size ≤ 140737488355328 := by
  obtain ⟨ys, n, rfl, rfl, hl, hys, hfd⟩ := DataW.trod_struct Tryz.underlying187 h
  rw [k187_] at hl
  have h0 : DataW.trod enc Tryz.prog w 0 (fun _ => true) held n 9 ((cs.drop 0).take (Tryz.prog.cellsOf 9)) = ys[0]? := hfd 0 _ rfl
  rw [k9_] at h0
  have h1 : DataW.trod enc Tryz.prog w 0 (fun _ => true) held n 185 ((cs.drop 1).take (Tryz.prog.cellsOf 185)) = ys[1]? := hfd 1 _ rfl
  rw [k185_] at h1
  obtain ⟨y0, g0, k0⟩ := some_of h0 (by rw [hys]; decide)
  obtain ⟨y1, g1, k1⟩ := some_of h1 (by rw [hys]; decide)
  obtain ⟨s, hs, hss⟩ := read_str Tryz.underlying9 g0 (field_w Tryz.underlying187 (z := []) hw 0 rfl k0)
  obtain ⟨a, b, u, hu, huu⟩ := read_val g1 (field_w Tryz.underlying187 (z := []) hw 1 rfl k1)
  exact ⟨⟨s, a, b, u⟩, by rw [cut4 hl, hs, hu]; rfl, hss, huu⟩
theorem read_props {fuel : Nat} {v : Value} {y : DataW H × List MemPlace} (h : DataW.trod enc Tryz.prog w 0 (fun _ => true) held fuel 33 [v] = some y) (hw : ∀ n ∈ y.1.weights Tryz.prog 33, n ≤ reachBytes) : ∃ xs : List Pr, RdS w v 4 prC xs ∧ ∀ p ∈ xs, p.key.size ≤ 140737488355328 ∧ p.text.size ≤ 140737488355328 :=
  open_rows prC_len (by decide) Tryz.underlying33 k187_ (of_decide_eq_true (by kernel_rfl)) ⟨⟨#[]⟩, 0, 0, ⟨#[]⟩⟩ (fun n cs y _ hy hn => read_prop hy hn) h hw
theorem read_edge {fuel : Nat} {cs : List Value} {y : DataW H × List MemPlace} (h : DataW.trod enc Tryz.prog w 0 (fun _ => true) held fuel 35 cs = some y) (hw : ∀ n ∈ y.1.weights Tryz.prog 35, n ≤ reachBytes) :
    ∃ e : Ed, cs = edC e ∧ (∃ xs : List Pr, RdS w e.pv 4 prC xs ∧ ∀ p ∈ xs, p.key.size ≤ 140737488355328 ∧ p.text.size ≤ 140737488355328) ∧ e.src.size ≤ 140737488355328 ∧ e.dst.size ≤ 140737488355328 ∧ e.lab.size ≤ 140737488355328 := by
  obtain ⟨ys, n, rfl, rfl, hl, hys, hfd⟩ := DataW.trod_struct Tryz.underlying35 h
  rw [k35_] at hl
  have h0 : DataW.trod enc Tryz.prog w 0 (fun _ => true) held n 9 ((cs.drop 0).take (Tryz.prog.cellsOf 9)) = ys[0]? := hfd 0 _ rfl
  rw [k9_] at h0
  have h1 : DataW.trod enc Tryz.prog w 0 (fun _ => true) held n 9 ((cs.drop 1).take (Tryz.prog.cellsOf 9)) = ys[1]? := hfd 1 _ rfl
  rw [k9_] at h1
  have h2 : DataW.trod enc Tryz.prog w 0 (fun _ => true) held n 9 ((cs.drop 2).take (Tryz.prog.cellsOf 9)) = ys[2]? := hfd 2 _ rfl
  rw [k9_] at h2
  have h3 : DataW.trod enc Tryz.prog w 0 (fun _ => true) held n 3 ((cs.drop 3).take (Tryz.prog.cellsOf 3)) = ys[3]? := hfd 3 _ rfl
  rw [k3_] at h3
  have h4 : DataW.trod enc Tryz.prog w 0 (fun _ => true) held n 33 ((cs.drop 4).take (Tryz.prog.cellsOf 33)) = ys[4]? := hfd 4 _ rfl
  rw [k33_] at h4
  obtain ⟨y0, g0, k0⟩ := some_of h0 (by rw [hys]; decide)
  obtain ⟨y1, g1, k1⟩ := some_of h1 (by rw [hys]; decide)
  obtain ⟨y2, g2, k2⟩ := some_of h2 (by rw [hys]; decide)
  obtain ⟨y3, g3, k3⟩ := some_of h3 (by rw [hys]; decide)
  obtain ⟨y4, g4, k4⟩ := some_of h4 (by rw [hys]; decide)
  obtain ⟨a, ha, haa⟩ := read_str Tryz.underlying9 g0 (field_w Tryz.underlying35 (z := []) hw 0 rfl k0)
  obtain ⟨b, hb, hbb⟩ := read_str Tryz.underlying9 g1 (field_w Tryz.underlying35 (z := []) hw 1 rfl k1)
  obtain ⟨c, hc, hcc⟩ := read_str Tryz.underlying9 g2 (field_w Tryz.underlying35 (z := []) hw 2 rfl k2)
  obtain ⟨t, ht⟩ := read_int Tryz.underlying3 g3
  obtain ⟨pv, hpv⟩ : ∃ pv, (cs.drop 4).take 1 = [pv] := last5 hl
  rw [hpv] at g4
  obtain ⟨xs, hx1, hx2⟩ := read_props g4 (field_w Tryz.underlying35 (z := []) hw 4 rfl k4)
  exact ⟨⟨a, b, c, t, pv⟩, by rw [cut5 hl, ha, hb, hc, ht, hpv]; rfl, ⟨xs, hx1, hx2⟩, haa, hbb, hcc⟩
theorem read_deed {fuel : Nat} {cs : List Value} {y : DataW H × List MemPlace} (h : DataW.trod enc Tryz.prog w 0 (fun _ => true) held fuel 37 cs = some y) (hw : ∀ n ∈ y.1.weights Tryz.prog 37, n ≤ reachBytes) : ∃ d : De, cs = deC d ∧ DeOk w d := by
  obtain ⟨ys, n, rfl, rfl, hl, hys, hfd⟩ := DataW.trod_struct Tryz.underlying37 h
  rw [k37_] at hl
  have h0 : DataW.trod enc Tryz.prog w 0 (fun _ => true) held n 3 ((cs.drop 0).take (Tryz.prog.cellsOf 3)) = ys[0]? := hfd 0 _ rfl
  rw [k3_] at h0
  have h1 : DataW.trod enc Tryz.prog w 0 (fun _ => true) held n 3 ((cs.drop 1).take (Tryz.prog.cellsOf 3)) = ys[1]? := hfd 1 _ rfl
  rw [k3_] at h1
  have h2 : DataW.trod enc Tryz.prog w 0 (fun _ => true) held n 35 ((cs.drop 2).take (Tryz.prog.cellsOf 35)) = ys[2]? := hfd 2 _ rfl
  rw [k35_] at h2
  obtain ⟨y0, g0, k0⟩ := some_of h0 (by rw [hys]; decide)
  obtain ⟨y1, g1, k1⟩ := some_of h1 (by rw [hys]; decide)
  obtain ⟨y2, g2, k2⟩ := some_of h2 (by rw [hys]; decide)
  obtain ⟨a, ha⟩ := read_int Tryz.underlying3 g0
  obtain ⟨b, hb⟩ := read_int Tryz.underlying3 g1
  obtain ⟨e, he, q1, q2, q3, q4⟩ := read_edge g2 (field_w Tryz.underlying37 (z := []) hw 2 rfl k2)
  exact ⟨⟨a, b, e⟩, by rw [cut7 hl, ha, hb, he]; rfl, q1, q2, q3, q4⟩
theorem read_deeds {fuel : Nat} {v : Value} {y : DataW H × List MemPlace} (h : DataW.trod enc Tryz.prog w 0 (fun _ => true) held fuel 26 [v] = some y) (hw : ∀ n ∈ y.1.weights Tryz.prog 26, n ≤ reachBytes) : ∃ ds : List De, RdS w v 7 deC ds ∧ ∀ d ∈ ds, DeOk w d :=
  open_rows deC_len (by decide) Tryz.underlying26 k37_ (of_decide_eq_true (by kernel_rfl)) ⟨0, 0, ⟨⟨#[]⟩, ⟨#[]⟩, ⟨#[]⟩, 0, .slice none 0 0⟩⟩ (fun n cs y _ hy hn => read_deed hy hn) h hw
theorem read_expr : ∀ (N : Nat) {fuel : Nat} {cs : List Value} {y : DataW H × List MemPlace}, SizeOf.sizeOf y.1 < N → DataW.trod enc Tryz.prog w 0 (fun _ => true) held fuel 25 cs = some y → (∀ n ∈ y.1.weights Tryz.prog 25, n ≤ reachBytes) → ∃ t : Et, cs = etC t ∧ EtR w t := by
  intro N
  induction N with
  | zero => intro fuel cs y hN; exact absurd hN (Nat.not_lt_zero _)
  | succ N ih =>
    intro fuel cs y hN h hw
    obtain ⟨ys, n, rfl, rfl, hl, hys, hfd⟩ := DataW.trod_struct Tryz.underlying25 h
    rw [k25_] at hl
    have h0 : DataW.trod enc Tryz.prog w 0 (fun _ => true) held n 22 ((cs.drop 0).take (Tryz.prog.cellsOf 22)) = ys[0]? := hfd 0 _ rfl
    rw [k22_] at h0
    have h1 : DataW.trod enc Tryz.prog w 0 (fun _ => true) held n 9 ((cs.drop 1).take (Tryz.prog.cellsOf 9)) = ys[1]? := hfd 1 _ rfl
    rw [k9_] at h1
    have h2 : DataW.trod enc Tryz.prog w 0 (fun _ => true) held n 23 ((cs.drop 2).take (Tryz.prog.cellsOf 23)) = ys[2]? := hfd 2 _ rfl
    rw [k23_] at h2
    obtain ⟨y0, g0, k0⟩ := some_of h0 (by rw [hys]; decide)
    obtain ⟨y1, g1, k1⟩ := some_of h1 (by rw [hys]; decide)
    obtain ⟨y2, g2, k2⟩ := some_of h2 (by rw [hys]; decide)
    obtain ⟨k, hk⟩ := read_int Tryz.underlying22 g0
    obtain ⟨l, hl1, _⟩ := read_str Tryz.underlying9 g1 (field_w Tryz.underlying25 (z := []) hw 1 rfl k1)
    obtain ⟨pv, hpv⟩ := last3 hl
    rw [hpv] at g2
    have hlt : SizeOf.sizeOf y2.1 < N := by
      have h9 : y2.1 ∈ ys.map (·.1) := List.mem_map_of_mem (List.mem_of_getElem? k2)
      have h8 := List.sizeOf_lt_of_mem h9
      simp only [DataW.agg.sizeOf_spec] at hN
      omega
    obtain ⟨ks, hx1, hx2⟩ := open_rows (φ := fun t => EtR w t) etC_len (by decide) Tryz.underlying23 k25_ (of_decide_eq_true (by kernel_rfl)) (.mk 0 ⟨#[]⟩ (.slice none 0 0) []) (fun n cs y hs hy hn => ih (by omega) hy hn) g2 (field_w Tryz.underlying25 (z := []) hw 2 rfl k2)
    refine ⟨.mk k l pv ks, by rw [cut3 hl, hk, hl1, hpv]; rfl, ?_⟩
    unfold EtR
    exact ⟨hx1, hx2⟩
end
theorem own : ownKnob Tryz.prog.godebug = none := by kernel_rfl
theorem laidOut : laidOutB Tryz.prog = true := by kernel_rfl
abbrev laid3 : List (String × DataW Unit) := [("math/bits.deBruijn32tab", Rows.laid_math_bits_deBruijn32tab), ("math/bits.deBruijn64tab", Rows.laid_math_bits_deBruijn64tab), ("internal/strconv.uint64pow10", Rows.laid_internal_strconv_uint64pow10)]
theorem g32 : Tryz.prog.globalNamed "math/bits.deBruijn32tab" = some 0 := by kernel_rfl
theorem g10 : Tryz.prog.globalNamed "internal/strconv.uint64pow10" = some 1 := by kernel_rfl
theorem t32 : (Tryz.prog.globals[0]?).map (·.type) = some 363 := by kernel_rfl
theorem t10 : (Tryz.prog.globals[1]?).map (·.type) = some 373 := by kernel_rfl
theorem u363 : Tryz.prog.underlying 363 = some (.array 32 5) := by kernel_rfl
theorem u373 : Tryz.prog.underlying 373 = some (.array 20 314) := by kernel_rfl
theorem u5 : Tryz.prog.underlying 5 = some (.int .u8) := by kernel_rfl
theorem u314 : Tryz.prog.underlying 314 = some (.int .u64) := by kernel_rfl
theorem k5_ : Tryz.prog.cellsOf 5 = 1 := by kernel_rfl
theorem k314_ : Tryz.prog.cellsOf 314 = 1 := by kernel_rfl
theorem k363_ : Tryz.prog.cellsOf 363 = 32 := by kernel_rfl
theorem k373_ : Tryz.prog.cellsOf 373 = 20 := by kernel_rfl
theorem d32 {H : Type} : (Rows.laid_math_bits_deBruijn32tab : DataW H) = Lib.tabData .u8 (Lib.deBruijn32tab.map fun n : Nat => (n : Int)) := rfl
theorem d10 {H : Type} : (Rows.laid_internal_strconv_uint64pow10 : DataW H) = Lib.tabData .u64 Lib.pow10Tab := rfl
theorem of_laid {W : World} (h : laidMetH Tryz.prog laid3 W) : TB W := by
  rw [MakeChecks.laidMetH_plain _ _ _ (by kernel_rfl)] at h
  obtain ⟨ps, ⟨gx0, tx0, cs0, f0, p0, q0, hg0, ht0, hv0, hd0, ⟨gx1, tx1, cs1, f1, p1, q1, hg1, ht1, hv1, hd1, ⟨gx2, tx2, cs2, f2, p2, q2, hg2, ht2, hv2, hd2, _, _⟩, _⟩, _⟩, _, _⟩ := h
  obtain rfl := Option.some.inj (g32.symm.trans hg0)
  obtain rfl := Option.some.inj (g10.symm.trans hg2)
  obtain rfl := Option.some.inj (t32.symm.trans ht0)
  obtain rfl := Option.some.inj (t10.symm.trans ht2)
  have h32 : Lib.TabIs Tryz.prog W "math/bits.deBruijn32tab" .u8 (Lib.deBruijn32tab.map fun n : Nat => (n : Int)) := by
    unfold Lib.TabIs
    rw [hv0, ← Lib.cells_of_tab u363 u5 k5_ k363_ (by rw [← d32]; exact hd0)]
  have h10 : Lib.TabIs Tryz.prog W "internal/strconv.uint64pow10" .u64 Lib.pow10Tab := by
    unfold Lib.TabIs
    rw [hv2, ← Lib.cells_of_tab u373 u314 k314_ k373_ (by rw [← d10]; exact hd2)]
  refine ⟨fun j hj => ?_, h10⟩
  have := h32.cell g32 j (by rw [List.length_map]; exact hj)
  rw [this]
  congr 2
  rw [List.getD_eq_getElem?_getD, List.getElem?_map, List.getD_eq_getElem?_getD]
  cases h : Lib.deBruijn32tab[j]? <;> rfl
theorem door_met (os : Os) (args : Array Value) : laidMetH Tryz.prog laid3 ((World.doorLaid Tryz.prog 24 os).forCall (fun _ _ => 0) ⟨#[], args, []⟩).memory :=
  laidMetH_of_parts3 (fuel := 8) (laidMet_of_run' 8 (by kernel_rfl) (by kernel_rfl)) (by kernel_rfl) (by kernel_rfl)
end Go.Proofs.YteibnmkikdbndaaGreatDoor
