/-
  What functions of this seat do: contracts, proved by walks, and the plain laws that they need; each with the conditions that it names.
-/
import Derived.Test.YteibnmkikdbndaaGreatDoorM4
import Derived.Test.YteibnmkikdbndaaGreatDoorE4
import Derived.Test.YteibnmkikdbndaaGreatDoorM2
import Derived.Shelf.SlSortCmp.WholeK
import Derived.Shelf.SlicesG.Cmp
import Derived.Shelf.SlSortCmp.NoneTotal
set_option linter.unusedVariables false
set_option linter.unusedSimpArgs false
namespace Go.Proofs.YteibnmkikdbndaaGreatDoor
open Go Go.RowKit KE Go.Proofs
theorem cal51 : Cal Tryz.prog 51 := ⟨_, Tryz.func51, rfl, by decide⟩
/-- memory holds the automaton -/
def AuR (w : World) (a : Nat) (A : Gr) : Prop := ∃ (rv ev lv : Value) (f0 : Nat × Nat) (ms : List Nat), w.heap[a]? = some (.cells #[rv, ev, lv] 139 f0) ∧ RdL w rv mI ms ∧ RdL w ev Value.bool A.ends ∧ ms.length = A.rows.length ∧
  ∀ (i m : Nat) (row : Row), ms[i]? = some m → A.rows[i]? = some row → MpR TS m (row.map (gval nI)) w
theorem AuR.old {w w' : World} {a : Nat} {A : Gr} (h : AuR w a A) (o : Old w w') : AuR w' a A := by
  obtain ⟨rv, ev, lv, f0, ms, h1, h2, h3, h4, h5⟩ := h
  exact ⟨rv, ev, lv, f0, ms, o _ _ h1, o.rdL h2, o.rdL h3, h4, fun i m row a b => (h5 i m row a b).old o⟩
def AuG (g : KE.Sub) (a : Nat) (A : Gr) : Prop := ∃ (rv ev lv : Value) (f0 : Nat × Nat), g a = some (.cells #[rv, ev, lv] 139 f0) ∧ GrG g rv ev A
theorem AuG.mono {g g' : KE.Sub} {a : Nat} {A : Gr} (h : AuG g a A) (k : sle g g') : AuG g' a A := by
  obtain ⟨rv, ev, lv, f0, h1, h2⟩ := h; exact ⟨rv, ev, lv, f0, k _ _ h1, h2.mono k⟩
theorem AuG.rd {g : KE.Sub} {a : Nat} {A : Gr} (h : AuG g a A) {w : World} (hw : hsub g w) : AuR w a A := by
  obtain ⟨rv, ev, lv, f0, h1, ms, h2, h3, h4⟩ := h
  exact ⟨rv, ev, lv, f0, ms, hw _ _ h1, (h2 w hw).1, (h2 w hw).2, h3, fun i m row a b => (h4 i m row a b).rd hw⟩
def takesA (A : Gr) (s : Nat) : Bool := A.ends.getD s false
def stepA (A : Gr) (s : Nat) (l : ByteArray) : Option Nat := glook l (A.rows.getD s [])
def stepV : Option Nat → Value
  | some t => .tuple #[nI t, .bool true]
  | none => .tuple #[I 0, .bool false]
/-- an expression's automaton -/
noncomputable def dfaF (t : Et) : Option Gr := (setsF (stepN (nfaT t).1) (labsT t) (finN (nfaT t).2 (emptyE t))).bind fun G => if 32 < (leastF G).rows.length then none else some (leastF G)
theorem c51 {a : Nat} {A : Gr} (w : World) (hA : AuR w a A) : CC Tryz.prog 51 [.pointer (some ⟨a, 0, none⟩)].toArray w (fun r w' => r = I A.rows.length ∧ Ext w w') := by
  obtain ⟨w0, e0⟩ : ∃ w0, w0 = w := ⟨w, rfl⟩
  subst e0
  have H := Hd.start w0
  obtain ⟨rv, ev, lv, f0, ms, ha, hr, he, hlen, hmp⟩ := hA
  obtain ⟨ra, rc, rfl⟩ := hr.shape
  obtain ⟨ea, ec, rfl⟩ := he.shape
  rw [hlen] at ha
  have hrl := hr.le
  have hel := he.le
  have hrs : RdL w0 (.slice ra A.rows.length rc) mI ms := by rw [← hlen]; exact hr
  refine CC.of (N := 11) Tryz.func51 rfl rfl rfl ?_
  refine WC.seq ?_
  refine WC.region ?_
  refine l_rd rfl rfl (x_assign ev_c) ?_
  refine WL.nil ?_
  refine WC.seq ?_
  refine WC.seq ?_
  refine WC.region ?_
  refine l_rd rfl rfl (x_move (by conv => lhs; whnf)) ?_
  refine l_rd rfl rfl (x_eqlPN Tryz.underlying71 rfl) ?_
  refine WL.nil ?_
  refine WC.cond0 rfl ?_
  refine WC.skip ?_
  refine WC.seq ?_
  refine WC.region ?_
  refine l_rd rfl rfl (x_move (by conv => lhs; whnf)) ?_
  refine l_rd rfl rfl (x_nilCheck rfl) ?_
  refine l_rd rfl rfl (x_fieldAddr (k := 0) Tryz.underlying139 rfl rfl ty136 (by decide) rfl) ?_
  refine l_rd rfl rfl (x_fieldAddr (k := 0) Tryz.underlying136 rfl rfl ty133 (by decide) rfl) ?_
  refine l_rd rfl rfl (x_load Tryz.underlying133 rfl rfl (cell_ofL ((H.old 0 rfl) _ _ ha) rfl)) ?_
  refine l_rd rfl rfl (x_lenSlice Tryz.underlying133 rfl rfl) ?_
  refine l_rd rfl rfl (x_assign (by conv => lhs; whnf)) ?_
  refine WL.nil ?_
  refine WC.ret ?_
  refine atRet ?_
  exact RetM.one rfl (by (conv => lhs; whnf); try rfl) (⟨rfl, H.below 0 rfl⟩)
theorem c53 {s : Nat} {a : Nat} {A : Gr} (w : World) (hA : AuR w a A) (hl : A.ends.length = A.rows.length) : CC Tryz.prog 53 [.pointer (some ⟨a, 0, none⟩), nI s].toArray w (fun r w' => r = .bool (takesA A s) ∧ Ext w w') := by
  obtain ⟨w0, e0⟩ : ∃ w0, w0 = w := ⟨w, rfl⟩
  subst e0
  have H := Hd.start w0
  have hAA := hA
  obtain ⟨rv, ev, lv, f0, ms, ha, hr, he, hlen, hmp⟩ := hA
  obtain ⟨ra, rc, rfl⟩ := hr.shape
  obtain ⟨ea, ec, rfl⟩ := he.shape
  rw [hlen] at ha
  have hrl := hr.le
  have hel := he.le
  have hrs : RdL w0 (.slice ra A.rows.length rc) mI ms := by rw [← hlen]; exact hr
  refine CC.of (N := 23) Tryz.func53 rfl rfl rfl ?_
  refine WC.seq ?_
  refine WC.region ?_
  refine l_rd rfl rfl (x_assign ev_c) ?_
  refine WL.nil ?_
  refine WC.seq ?_
  refine WC.region ?_
  refine l_rd rfl rfl (x_move (by conv => lhs; whnf)) ?_
  refine l_rdD rfl rfl (x_geq rfl rfl) (fun h6 => ?_) (fun h6 => ?_)
  ·
    refine l_rd rfl rfl (x_move (by conv => lhs; whnf)) ?_
    refine l_gy (wantY rfl rfl rfl) rfl rfl (x_move (by conv => lhs; whnf)) ?_
    refine l_gy (wantY rfl rfl rfl) rfl rfl (x_move (by conv => lhs; whnf)) ?_
    refine l_gst (wantY rfl rfl rfl) rfl (s_callL cal51 (c51 _ (hAA.old (H.old 0 rfl))) ?_)
    rintro _ w ⟨rfl, e1⟩
    have H := H.ext e1
    refine l_gyD (wantY rfl rfl rfl) rfl rfl (x_lss rfl rfl) (fun h11 => ?_) (fun h11 => ?_)
    ·
      obtain ⟨e, hs⟩ := lt_get (show s < A.ends.length by omega)
      obtain ⟨b5, o5, rfl, hc5⟩ := ((H.old 0 rfl).rdL he).el hs
      refine l_rd rfl rfl (x_pick1 rfl (by conv => lhs; whnf)) ?_
      refine l_rd rfl rfl (x_move (by conv => lhs; whnf)) ?_
      refine l_gy (wantY rfl rfl rfl) rfl rfl (x_move (by conv => lhs; whnf)) ?_
      refine l_gy (wantY rfl rfl rfl) rfl rfl (x_nilCheck rfl) ?_
      refine l_gy (wantY rfl rfl rfl) rfl rfl (x_fieldAddr (k := 0) Tryz.underlying139 rfl rfl ty136 (by decide) rfl) ?_
      refine l_gy (wantY rfl rfl rfl) rfl rfl (x_fieldAddr (k := 1) Tryz.underlying136 rfl rfl ty134 (by decide) rfl) ?_
      refine l_gy (wantY rfl rfl rfl) rfl rfl (x_load Tryz.underlying134 rfl rfl (cell_ofL ((H.old 0 rfl) _ _ ha) rfl)) ?_
      refine l_gy (wantY rfl rfl rfl) rfl rfl (x_move (by conv => lhs; whnf)) ?_
      refine l_gy (wantY rfl rfl rfl) rfl rfl (x_indexAddr Tryz.underlying134 ty4 rfl rfl (by omega) (by omega)) ?_
      refine l_gy (wantY rfl rfl rfl) rfl rfl (x_load Tryz.underlying4 rfl rfl hc5) ?_
      refine l_rd rfl rfl (x_pick1 rfl (by conv => lhs; whnf)) ?_
      refine l_rd rfl rfl (x_assign (by conv => lhs; whnf)) ?_
      refine WL.nil ?_
      refine WC.ret ?_
      refine atRet ?_
      exact RetM.one rfl (by (conv => lhs; whnf); try rfl) (⟨by unfold takesA; rw [List.getD_eq_getElem?_getD, hs]; rfl, H.below 0 rfl⟩)
    ·
      refine l_rd rfl rfl (x_pick1 rfl (by conv => lhs; whnf)) ?_
      refine l_rd rfl rfl (x_move (by conv => lhs; whnf)) ?_
      refine l_gn (wantN rfl rfl rfl) rfl ?_
      refine l_gn (wantN rfl rfl rfl) rfl ?_
      refine l_gn (wantN rfl rfl rfl) rfl ?_
      refine l_gn (wantN rfl rfl rfl) rfl ?_
      refine l_gn (wantN rfl rfl rfl) rfl ?_
      refine l_gn (wantN rfl rfl rfl) rfl ?_
      refine l_gn (wantN rfl rfl rfl) rfl ?_
      refine l_gn (wantN rfl rfl rfl) rfl ?_
      refine l_rd rfl rfl (x_pick0 rfl ev_c) ?_
      refine l_rd rfl rfl (x_assign (by conv => lhs; whnf)) ?_
      refine WL.nil ?_
      refine WC.ret ?_
      refine atRet ?_
      exact RetM.one rfl (by (conv => lhs; whnf); try rfl) (⟨by unfold takesA; rw [List.getD_eq_getElem?_getD, List.getElem?_eq_none (show A.ends.length ≤ s by omega)]; rfl, H.below 0 rfl⟩)
  ·
    exact absurd (show (0:Int) ≤ s by omega) h6
theorem c115 {s : Nat} {lb : ByteArray} {a : Nat} {A : Gr} (w : World) (hA : AuR w a A) : CC Tryz.prog 115 [.pointer (some ⟨a, 0, none⟩), nI s, S lb].toArray w (fun r w' => r = stepV (stepA A s lb) ∧ Ext w w') := by
  obtain ⟨w0, e0⟩ : ∃ w0, w0 = w := ⟨w, rfl⟩
  subst e0
  have H := Hd.start w0
  have hAA := hA
  obtain ⟨rv, ev, lv, f0, ms, ha, hr, he, hlen, hmp⟩ := hA
  obtain ⟨ra, rc, rfl⟩ := hr.shape
  obtain ⟨ea, ec, rfl⟩ := he.shape
  rw [hlen] at ha
  have hrl := hr.le
  have hel := he.le
  have hrs : RdL w0 (.slice ra A.rows.length rc) mI ms := by rw [← hlen]; exact hr
  refine CC.of (N := 31) Tryz.func115 rfl rfl rfl ?_
  refine WC.seq ?_
  refine WC.region ?_
  refine l_rd rfl rfl (x_assign ev_c) ?_
  refine l_rd rfl rfl (x_assign ev_c) ?_
  refine WL.nil ?_
  refine WC.seq ?_
  refine WC.seq ?_
  refine WC.region ?_
  refine l_rd rfl rfl (x_move (by conv => lhs; whnf)) ?_
  refine l_rdD rfl rfl (x_geq rfl rfl) (fun h9 => ?_) (fun h9 => ?_)
  ·
    refine l_rd rfl rfl (x_move (by conv => lhs; whnf)) ?_
    refine l_gy (wantY rfl rfl rfl) rfl rfl (x_move (by conv => lhs; whnf)) ?_
    refine l_gy (wantY rfl rfl rfl) rfl rfl (x_move (by conv => lhs; whnf)) ?_
    refine l_gst (wantY rfl rfl rfl) rfl (s_callL cal51 (c51 _ (hAA.old (H.old 0 rfl))) ?_)
    rintro _ w ⟨rfl, e1⟩
    have H := H.ext e1
    refine l_gyD (wantY rfl rfl rfl) rfl rfl (x_lss rfl rfl) (fun h14 => ?_) (fun h14 => ?_)
    ·
      obtain ⟨row, hrow⟩ := lt_get (show s < A.rows.length by omega)
      obtain ⟨m, hm⟩ := lt_get (show s < ms.length by omega)
      obtain ⟨b5, o5, rfl, hc5⟩ := ((H.old 0 rfl).rdL hrs).el hm
      refine l_rd rfl rfl (x_pick1 rfl (by conv => lhs; whnf)) ?_
      refine WL.nil ?_
      refine WC.cond1 rfl ?_
      refine WC.region ?_
      refine l_rd rfl rfl (x_move (by conv => lhs; whnf)) ?_
      refine l_rd rfl rfl (x_nilCheck rfl) ?_
      refine l_rd rfl rfl (x_fieldAddr (k := 0) Tryz.underlying139 rfl rfl ty136 (by decide) rfl) ?_
      refine l_rd rfl rfl (x_fieldAddr (k := 0) Tryz.underlying136 rfl rfl ty133 (by decide) rfl) ?_
      refine l_rd rfl rfl (x_load Tryz.underlying133 rfl rfl (cell_ofL ((H.old 0 rfl) _ _ ha) rfl)) ?_
      refine l_rd rfl rfl (x_move (by conv => lhs; whnf)) ?_
      refine l_rd rfl rfl (x_indexAddr Tryz.underlying133 ty235 rfl rfl (by omega) (by omega)) ?_
      refine l_rd rfl rfl (x_load Tryz.underlying235 rfl rfl hc5) ?_
      refine l_rd rfl rfl (x_move (by conv => lhs; whnf)) ?_
      cases hk : glook lb row with
      | none =>
        refine l_rd rfl rfl (x_lookR TS Tryz.underlying235 ty3 rfl rfl ((hmp s m row hm hrow).old (H.old 0 rfl)) (show _ = Value.tuple #[I 0, .bool false] by rw [alook_g, hk]; rfl)) ?_
        refine l_rd rfl rfl (x_move (by conv => lhs; whnf)) ?_
        refine l_rd rfl rfl (x_extract rfl rfl) ?_
        refine l_rd rfl rfl (x_extract rfl rfl) ?_
        refine l_rd rfl rfl (x_assign (by conv => lhs; whnf)) ?_
        refine l_rd rfl rfl (x_assign (by conv => lhs; whnf)) ?_
        refine WL.nil ?_
        refine WC.seq ?_
        refine WC.region ?_
        refine l_rd rfl rfl (x_move (by conv => lhs; whnf)) ?_
        refine l_rd rfl rfl (x_move (by conv => lhs; whnf)) ?_
        refine l_rd rfl rfl (x_assign (by conv => lhs; whnf)) ?_
        refine l_rd rfl rfl (x_assign (by conv => lhs; whnf)) ?_
        refine WL.nil ?_
        refine WC.ret ?_
        refine atRet ?_
        exact RetM.two rfl (by (conv => lhs; whnf); try rfl) (by (conv => lhs; whnf); try rfl) (⟨by unfold stepA; rw [List.getD_eq_getElem?_getD, hrow, Option.getD_some, hk]; rfl, H.below 0 rfl⟩)
      | some to =>
        refine l_rd rfl rfl (x_lookR TS Tryz.underlying235 ty3 rfl rfl ((hmp s m row hm hrow).old (H.old 0 rfl)) (show _ = Value.tuple #[nI to, .bool true] by rw [alook_g, hk]; rfl)) ?_
        refine l_rd rfl rfl (x_move (by conv => lhs; whnf)) ?_
        refine l_rd rfl rfl (x_extract rfl rfl) ?_
        refine l_rd rfl rfl (x_extract rfl rfl) ?_
        refine l_rd rfl rfl (x_assign (by conv => lhs; whnf)) ?_
        refine l_rd rfl rfl (x_assign (by conv => lhs; whnf)) ?_
        refine WL.nil ?_
        refine WC.seq ?_
        refine WC.region ?_
        refine l_rd rfl rfl (x_move (by conv => lhs; whnf)) ?_
        refine l_rd rfl rfl (x_move (by conv => lhs; whnf)) ?_
        refine l_rd rfl rfl (x_assign (by conv => lhs; whnf)) ?_
        refine l_rd rfl rfl (x_assign (by conv => lhs; whnf)) ?_
        refine WL.nil ?_
        refine WC.ret ?_
        refine atRet ?_
        exact RetM.two rfl (by (conv => lhs; whnf); try rfl) (by (conv => lhs; whnf); try rfl) (⟨by unfold stepA; rw [List.getD_eq_getElem?_getD, hrow, Option.getD_some, hk]; rfl, H.below 0 rfl⟩)
    ·
      refine l_rd rfl rfl (x_pick1 rfl (by conv => lhs; whnf)) ?_
      refine WL.nil ?_
      refine WC.cond0 rfl ?_
      refine WC.skip ?_
      refine WC.seq ?_
      refine WC.region ?_
      refine l_rd rfl rfl (x_move (by conv => lhs; whnf)) ?_
      refine l_rd rfl rfl (x_move (by conv => lhs; whnf)) ?_
      refine l_rd rfl rfl (x_assign (by conv => lhs; whnf)) ?_
      refine l_rd rfl rfl (x_assign (by conv => lhs; whnf)) ?_
      refine WL.nil ?_
      refine WC.ret ?_
      refine atRet ?_
      exact RetM.two rfl (by (conv => lhs; whnf); try rfl) (by (conv => lhs; whnf); try rfl) (⟨by unfold stepA; rw [List.getD_eq_getElem?_getD, List.getElem?_eq_none (show A.rows.length ≤ s by omega)]; rfl, H.below 0 rfl⟩)
  ·
    exact absurd (show (0:Int) ≤ s by omega) h9
theorem ty139 : Ty Tryz.prog 139 (.agg #[(.slice none 0 0), (.slice none 0 0), (.slice none 0 0)]) 3 72 := Ty.of (by kernel_rfl)
theorem cal65 : Cal Tryz.prog 65 := ⟨_, Tryz.func65, rfl, by decide⟩
theorem cal66 : Cal Tryz.prog 66 := ⟨_, Tryz.func66, rfl, by decide⟩
theorem cal67 : Cal Tryz.prog 67 := ⟨_, Tryz.func67, rfl, by decide⟩
theorem cal68 : Cal Tryz.prog 68 := ⟨_, Tryz.func68, rfl, by decide⟩
theorem c30 {s : Sy} [NoEx s] {L : List Hp} {w0 : World} {t : Et} (w : World) (hT : TB w0) (ht : EtR w0 t) (H : Hd s w (fr w0 :: L)) : CC Tryz.prog 30 [.agg (etC t).toArray].toArray w (fun r w' => (¬ rightT t ∧ r = .tuple #[.pointer none, I 2] ∧ Hd s w' (fr w0 :: L)) ∨ (rightT t ∧ dfaF t = none ∧ r = .tuple #[.pointer none, I 11] ∧ Hd s w' (fr w0 :: L)) ∨ (rightT t ∧ ∃ (A : Gr) (a : Nat) (g : KE.Sub), dfaF t = some A ∧ r = .tuple #[.pointer (some ⟨a, 0, none⟩), I 0] ∧ AuG g a A ∧ Hd s w' (fz g :: fr w0 :: L))) := by
  refine CC.of (N := 37) Tryz.func30 rfl rfl rfl ?_
  refine WC.seq ?_
  refine WC.region ?_
  refine l_st rfl (s_box (by conv => lhs; whnf) H fun b1 w H => ?_)
  refine l_rd rfl rfl (x_assign ev_c) ?_
  refine l_rd rfl rfl (x_assign ev_c) ?_
  refine WL.nil ?_
  refine WC.seq ?_
  refine WC.region ?_
  refine l_rd rfl rfl (x_loadF (vs := [_, _, _]) Tryz.underlying25 rfl ty25 rfl rfl (H.cellsL 0 rfl rfl)) ?_
  refine l_st rfl (s_callL cal65 (c65 _ hT ht (Hd.arrT [_, _] [1, 0] (by decide) rfl H)) ?_)
  rintro _ w (⟨hnr, rfl, H⟩ | ⟨hR, n, rfl, H⟩)
  ·
    refine l_rd rfl rfl (x_move (by conv => lhs; whnf)) ?_
    refine l_rd rfl rfl (x_extract rfl rfl) ?_
    refine l_rd rfl rfl (x_extract rfl rfl) ?_
    refine l_rd rfl rfl (x_assign (by conv => lhs; whnf)) ?_
    refine l_rd rfl rfl (x_assign (by conv => lhs; whnf)) ?_
    refine WL.nil ?_
    refine WC.seq ?_
    refine WC.seq ?_
    refine WC.region ?_
    refine l_rd rfl rfl (x_move (by conv => lhs; whnf)) ?_
    refine l_rdD rfl rfl (x_neq rfl rfl) (fun h16 => ?_) (fun h16 => ?_)
    ·
      refine WL.nil ?_
      refine WC.cond1 rfl ?_
      refine WC.seq ?_
      refine WC.region ?_
      refine l_rd rfl rfl (x_move (by conv => lhs; whnf)) ?_
      refine l_rd rfl rfl (x_assign ev_c) ?_
      refine l_rd rfl rfl (x_assign (by conv => lhs; whnf)) ?_
      refine WL.nil ?_
      refine WC.ret ?_
      refine atRet ?_
      exact RetM.two rfl (by (conv => lhs; whnf); try rfl) (by (conv => lhs; whnf); try rfl) (.inl ⟨hnr, rfl, Hd.arrT [_, _] [0] (by decide) rfl H⟩)
    ·
      exact absurd (by decide) h16
  ·
    refine l_rd rfl rfl (x_move (by conv => lhs; whnf)) ?_
    refine l_rd rfl rfl (x_extract rfl rfl) ?_
    refine l_rd rfl rfl (x_extract rfl rfl) ?_
    refine l_rd rfl rfl (x_assign (by conv => lhs; whnf)) ?_
    refine l_rd rfl rfl (x_assign (by conv => lhs; whnf)) ?_
    refine WL.nil ?_
    refine WC.seq ?_
    refine WC.seq ?_
    refine WC.region ?_
    refine l_rd rfl rfl (x_move (by conv => lhs; whnf)) ?_
    refine l_rdD rfl rfl (x_neq rfl rfl) (fun h16 => ?_) (fun h16 => ?_)
    ·
      exact absurd rfl h16
    ·
      refine WL.nil ?_
      refine WC.cond0 rfl ?_
      refine WC.skip ?_
      refine WC.seq ?_
      refine WC.region ?_
      refine l_rd rfl rfl (x_loadF (vs := [_, _, _]) Tryz.underlying25 rfl ty25 rfl rfl (H.cellsL 2 rfl rfl)) ?_
      refine l_st rfl (s_callL cal66 (c66 _ ht (Hd.arrT [_, _, _] [1, 0, 2] (by decide) rfl H)) ?_)
      rintro v19 w H
      obtain ⟨la_, lc_, rfl⟩ := (H.sl 0 rfl).shape
      refine l_rd rfl rfl (x_assign (by conv => lhs; whnf)) ?_
      refine WL.nil ?_
      refine WC.seq ?_
      refine WC.region ?_
      refine l_rd rfl rfl (x_move (by conv => lhs; whnf)) ?_
      refine l_rd rfl rfl (x_move (by conv => lhs; whnf)) ?_
      obtain ⟨hok, hla⟩ := nfaT_ok hR
      refine l_st rfl (s_callL cal67 (c67 _ hT (labsT_ok t) hok hla (Hd.arrT [_, _, _, _] [2, 0, 1, 3] (by decide) rfl H)) ?_)
      rintro _ w (⟨hno, rfl, H⟩ | ⟨G, a, rv, ev, g, hyes, rfl, ha, hG, H⟩)
      ·
        refine l_rd rfl rfl (x_move (by conv => lhs; whnf)) ?_
        refine l_rd rfl rfl (x_extract rfl rfl) ?_
        refine l_rd rfl rfl (x_extract rfl rfl) ?_
        refine l_rd rfl rfl (x_assign (by conv => lhs; whnf)) ?_
        refine l_rd rfl rfl (x_assign (by conv => lhs; whnf)) ?_
        refine WL.nil ?_
        refine WC.seq ?_
        refine WC.seq ?_
        refine WC.region ?_
        refine l_rd rfl rfl (x_move (by conv => lhs; whnf)) ?_
        refine l_rd rfl rfl (x_not rfl) ?_
        refine WL.nil ?_
        refine WC.cond1 rfl ?_
        refine WC.seq ?_
        refine WC.region ?_
        refine l_rd rfl rfl (x_assign ev_c) ?_
        refine l_rd rfl rfl (x_assign ev_c) ?_
        refine WL.nil ?_
        refine WC.ret ?_
        refine atRet ?_
        exact RetM.two rfl (by (conv => lhs; whnf); try rfl) (by (conv => lhs; whnf); try rfl) (.inr (.inl ⟨hR, by unfold dfaF; rw [hno]; rfl, rfl, Hd.arrT [_, _, _] [1] (by decide) rfl H⟩))
      ·
        refine l_rd rfl rfl (x_move (by conv => lhs; whnf)) ?_
        refine l_rd rfl rfl (x_extract rfl rfl) ?_
        refine l_rd rfl rfl (x_extract rfl rfl) ?_
        refine l_rd rfl rfl (x_assign (by conv => lhs; whnf)) ?_
        refine l_rd rfl rfl (x_assign (by conv => lhs; whnf)) ?_
        refine WL.nil ?_
        refine WC.seq ?_
        refine WC.seq ?_
        refine WC.region ?_
        refine l_rd rfl rfl (x_move (by conv => lhs; whnf)) ?_
        refine l_rd rfl rfl (x_not rfl) ?_
        refine WL.nil ?_
        refine WC.cond0 rfl ?_
        refine WC.skip ?_
        refine WC.seq ?_
        refine WC.region ?_
        refine l_rd rfl rfl (x_move (by conv => lhs; whnf)) ?_
        refine l_st rfl (s_callL cal68 (c68 _ hT (labsT_ok t) hG ha (setsF_ok (labsT_ok t).2.1 hyes) (Hd.arrT [_, _, _, _] [0, 2, 1, 3] (by decide) rfl H)) ?_)
        rintro _ w ⟨rv2, ev2, g2, rfl, hsub, hG2, H⟩
        refine l_rd rfl rfl (x_move (by conv => lhs; whnf)) ?_
        refine l_rd rfl rfl (x_buildL (pl := [(0, 2), (2, 1)]) (cells := [rv2, ev2, .slice la_ (labsT t).length lc_]) Tryz.underlying139 ty139 (by kernel_rfl) rfl) ?_
        refine l_st rfl (s_box (by conv => lhs; whnf) H fun b32 w H => ?_)
        refine l_rd rfl rfl (x_assign (by conv => lhs; whnf)) ?_
        refine WL.nil ?_
        refine WC.seq ?_
        refine WC.seq ?_
        obtain ⟨g3, gb, hle, hlb, hb, H⟩ := Hd.freezeA (Hd.arrT [_, _, _, _, _] [0, 1, 2, 3, 4] (by decide) rfl H)
        have hAu : AuG g3 b32 (leastF G) := ⟨rv2, ev2, _, _, hlb _ _ hb, hG2.mono hle⟩
        refine WC.region ?_
        refine l_rd rfl rfl (x_move (by conv => lhs; whnf)) ?_
        refine l_st rfl (s_callL cal51 (c51 _ (hAu.rd (H.fz 0 rfl))) ?_)
        rintro _ w ⟨rfl, e1⟩
        have H := H.ext e1
        refine l_rdD rfl rfl (x_gtr rfl rfl) (fun h35 => ?_) (fun h35 => ?_)
        ·
          refine WL.nil ?_
          refine WC.cond1 rfl ?_
          refine WC.seq ?_
          refine WC.region ?_
          refine l_rd rfl rfl (x_assign ev_c) ?_
          refine l_rd rfl rfl (x_assign ev_c) ?_
          refine WL.nil ?_
          refine WC.ret ?_
          refine atRet ?_
          exact RetM.two rfl (by (conv => lhs; whnf); try rfl) (by (conv => lhs; whnf); try rfl) (.inr (.inl ⟨hR, by unfold dfaF; rw [hyes, Option.bind_some, if_pos (by omega)], rfl, Hd.arrT [_, _, _, _] [1] (by decide) rfl H⟩))
        ·
          refine WL.nil ?_
          refine WC.cond0 rfl ?_
          refine WC.skip ?_
          refine WC.seq ?_
          refine WC.region ?_
          refine l_rd rfl rfl (x_move (by conv => lhs; whnf)) ?_
          refine l_rd rfl rfl (x_assign (by conv => lhs; whnf)) ?_
          refine l_rd rfl rfl (x_assign ev_c) ?_
          refine WL.nil ?_
          refine WC.ret ?_
          refine atRet ?_
          exact RetM.two rfl (by (conv => lhs; whnf); try rfl) (by (conv => lhs; whnf); try rfl) (.inr (.inr ⟨hR, leastF G, b32, g3, by unfold dfaF; rw [hyes, Option.bind_some, if_neg (by omega)], rfl, hAu, Hd.arrT [_, _, _, _] [0, 1] (by decide) rfl H⟩))
/-! ### keys that are structs -/
theorem part_c {w : World} {n : Nat} {xs ys : Array Value} {f : Field} {fs : List Field} {x y : Value} {p : Prop} [Decidable p] {b : Bool} (hn : f.name ≠ "_") (hx : (Go.part f.type xs f.offset).run Tryz.prog w = .ok x w) (hy : (Go.part f.type ys f.offset).run Tryz.prog w = .ok y w) (he : (Op.equalIn n f.type x y).run Tryz.prog w = .ok (decide p) w) (r : EqF Tryz.prog w n xs ys fs b) :
    EqF Tryz.prog w n xs ys (f :: fs) (decide p && b) := .one hn hx hy he r
theorem eqSS {t : TypeId} {fs : List Field} {w : World} (n : Nat) (a b a' b' : ByteArray) (h : (Op.equalIn (n + 2) t (.agg #[S a, S b]) (.agg #[S a', S b'])).run Tryz.prog w = .ok (decide (a = a') && (decide (b = b') && true)) w) : (Op.equalIn (n + 2) t (.agg #[S a, S b]) (.agg #[S a', S b'])).run Tryz.prog w = .ok (decide ((a, b) = (a', b'))) w := by
  have e : (decide (a = a') && (decide (b = b') && true)) = decide ((a, b) = (a', b')) := by
    by_cases h1 : a = a' <;> by_cases h2 : b = b' <;> simp [h1, h2]
  rw [h, e]
theorem eq148 (w : World) (n : Nat) (a b a' b' : ByteArray) : (Op.equalIn (n + 2) 148 (.agg #[S a, S b]) (.agg #[S a', S b'])).run Tryz.prog w = .ok (decide (a = a') && (decide (b = b') && true)) w :=
  EqF.run Tryz.underlying148 (by kernel_rfl) (.one (by decide) (part1 Tryz.underlying9 rfl rfl) (part1 Tryz.underlying9 rfl rfl) (eqIn_str Tryz.underlying9) (.one (by decide) (part1 Tryz.underlying9 rfl rfl) (part1 Tryz.underlying9 rfl rfl) (eqIn_str Tryz.underlying9) .nil))
theorem eq160 (w : World) (n : Nat) (a b a' b' : ByteArray) : (Op.equalIn (n + 2) 160 (.agg #[S a, S b]) (.agg #[S a', S b'])).run Tryz.prog w = .ok (decide (a = a') && (decide (b = b') && true)) w :=
  EqF.run Tryz.underlying160 (by kernel_rfl) (.one (by decide) (part1 Tryz.underlying9 rfl rfl) (part1 Tryz.underlying9 rfl rfl) (eqIn_str Tryz.underlying9) (.one (by decide) (part1 Tryz.underlying9 rfl rfl) (part1 Tryz.underlying9 rfl rfl) (eqIn_str Tryz.underlying9) .nil))
theorem eq151 (w : World) (n : Nat) (a a' : ByteArray) (b b' : Nat) : (Op.equalIn (n + 2) 151 (.agg #[S a, nI b]) (.agg #[S a', nI b'])).run Tryz.prog w = .ok (decide (a = a') && (decide ((b : Int) = (b' : Int)) && true)) w :=
  EqF.run Tryz.underlying151 (by kernel_rfl) (.one (by decide) (part1 Tryz.underlying9 rfl rfl) (part1 Tryz.underlying9 rfl rfl) (eqIn_str Tryz.underlying9) (.one (by decide) (part1 Tryz.underlying3 rfl rfl) (part1 Tryz.underlying3 rfl rfl) (eqIn_int Tryz.underlying3) .nil))
theorem ck2 {t : TypeId} {f1 f2 : Field} {x y : Value} {w : World} {n : Nat} {e : Bool} (ht : Tryz.prog.underlying t = some (.struct [f1, f2].toArray)) (h1 : f1.offset = 0) (h2 : f2.offset = 1) (u1 : (Go.part f1.type #[x, y] 0).run Tryz.prog w = .ok x w) (u2 : (Go.part f2.type #[x, y] 1).run Tryz.prog w = .ok y w)
    (c1 : (Instr.checkKey e n f1.type x).run Tryz.prog w = .ok () w) (c2 : (Instr.checkKey e n f2.type y).run Tryz.prog w = .ok () w) : (Instr.checkKey e (n + 1) t (.agg #[x, y])).run Tryz.prog w = .ok () w := by
  simp only [Instr.checkKey, Sem.run_bind, run_under ht, Result.andThen]
  rw [← Array.forIn_toList]
  by_cases n1 : f1.name = "_" <;> by_cases n2 : f2.name = "_" <;> simp [List.forIn_cons, Sem.run_bind, n1, n2, h1, h2, u1, u2, c1, c2, Result.andThen, Sem.run_pure]
theorem ck_s (e : Bool) (n : Nat) (a : ByteArray) (w : World) : (Instr.checkKey e (n + 1) 9 (.string a)).run Tryz.prog w = .ok () w := ck_str Tryz.underlying9 n e a w
theorem ck_i (e : Bool) (n : Nat) (a : Int) (w : World) : (Instr.checkKey e (n + 1) 3 (I a)).run Tryz.prog w = .ok () w := ck_int Tryz.underlying3 n e a w
theorem sb2 {x y : Value} (h1 : Instr.sameBits 9999 x x = true) (h2 : Instr.sameBits 9999 y y = true) : Instr.sameBits 10000 (.agg #[x, y]) (.agg #[x, y]) = true := by
  show ((#[x, y] : Array Value).size == (#[x, y] : Array Value).size && ((#[x, y] : Array Value).toList.zip (#[x, y] : Array Value).toList).all fun (x, y) => Instr.sameBits 9999 x y) = true
  simp [h1, h2]
abbrev Spot := ByteArray × Nat
abbrev Lk := ByteArray × ByteArray
abbrev Pq := ByteArray × ByteArray
def TSp : KT Tryz.prog 151 Spot := ktP (fun p => .agg #[S p.1, nI p.2]) Tryz.underlying151 (fun a b w => by
    obtain ⟨a1, a2⟩ := a; obtain ⟨b1, b2⟩ := b
    have e : (decide (a1 = b1) && (decide ((a2 : Int) = (b2 : Int)) && true)) = decide ((a1, a2) = (b1, b2)) := by
     by_cases h1 : a1 = b1 <;> by_cases h2 : a2 = b2
     · subst h1 h2; simp
     · have : ¬ (a2 : Int) = (b2 : Int) := by omega
       simp [h2, this]
     · simp [h1]
     · simp [h1]
    exact (eq151 w 9998 a1 b1 a2 b2).trans (by rw [e])) (fun a => ⟨_, rfl⟩) (fun a => sb2 (sb_str _ _) (sb_int _ _ _)) (fun e a w => ck2 Tryz.underlying151 rfl rfl (part1 Tryz.underlying9 rfl rfl) (part1 Tryz.underlying3 rfl rfl) (ck_s e 9998 _ w) (ck_i e 9998 _ w))
def TLk : KT Tryz.prog 148 Lk := ktP (fun p => .agg #[S p.1, S p.2]) Tryz.underlying148 (fun a b w => eqSS (fs := []) 9998 a.1 a.2 b.1 b.2 (eq148 w 9998 a.1 a.2 b.1 b.2)) (fun a => ⟨_, rfl⟩) (fun a => sb2 (sb_str _ _) (sb_str _ _)) (fun e a w => ck2 Tryz.underlying148 rfl rfl (part1 Tryz.underlying9 rfl rfl) (part1 Tryz.underlying9 rfl rfl) (ck_s e 9998 _ w) (ck_s e 9998 _ w))
def TPq : KT Tryz.prog 160 Pq := ktP (fun p => .agg #[S p.1, S p.2]) Tryz.underlying160 (fun a b w => eqSS (fs := []) 9998 a.1 a.2 b.1 b.2 (eq160 w 9998 a.1 a.2 b.1 b.2)) (fun a => ⟨_, rfl⟩) (fun a => sb2 (sb_str _ _) (sb_str _ _)) (fun e a w => ck2 Tryz.underlying160 rfl rfl (part1 Tryz.underlying9 rfl rfl) (part1 Tryz.underlying9 rfl rfl) (ck_s e 9998 _ w) (ck_s e 9998 _ w))
/-! ### the forest -/
abbrev Nn := N2 Spot ByteArray Int
abbrev Ln := N2 ByteArray Lk Int
/-- the time of a node, of a link -/
abbrev nodT (n : Nn) (r v : ByteArray) (s : Nat) : Option Int := look2 n (v, s) r
abbrev lnkT (l : Ln) (v to lab : ByteArray) : Option Int := look2 l v (to, lab)
abbrev foC (a mn ml : Nat) (cut last : Int) : List Value := [.pointer (some ⟨a, 0, none⟩), .map (some mn), .map (some ml), I cut, I last]
/-- memory holds a forest -/
structure FoR (w : World) (f : Nat) (A : Gr) (n : Nn) (l : Ln) (cut last : Int) : Prop where
  ex : ∃ (a mn ml : Nat) (f0 : Nat × Nat), w.heap[f]? = some (.cells (foC a mn ml cut last).toArray 143 f0) ∧ AuR w a A ∧ MpR TSp mn (n.map (gval pI)) w ∧ MpR TS ml (l.map (gval pI)) w
  ni : ∀ k m row, glook k n = some (m, row) → MpR TS m (row.map (gval I)) w
  li : ∀ k m row, glook k l = some (m, row) → MpR TLk m (row.map (gval I)) w
theorem FoR.old {w w' : World} {f : Nat} {A : Gr} {n : Nn} {l : Ln} {cut last : Int} (h : FoR w f A n l cut last) (o : Old w w') : FoR w' f A n l cut last := by
  obtain ⟨⟨a, mn, ml, f0, h1, h2, h3, h4⟩, h5, h6⟩ := h
  exact ⟨⟨a, mn, ml, f0, o _ _ h1, h2.old o, h3.old o, h4.old o⟩, fun k m row hk => (h5 k m row hk).old o, fun k m row hk => (h6 k m row hk).old o⟩
/-- the parts of a forest that one owns -/
def FoL (f a mn ml : Nat) (n : Nn) (l : Ln) (cut last : Int) (g : KE.Sub) : List Hp := [pt f (.cells (foC a mn ml cut last).toArray 143 (0, 0)), Mp TSp mn (n.map (gval pI)), IM TS I n, Mp TS ml (l.map (gval pI)), IM TLk I l, fz g]
theorem FoL.rd {s : Sy} {w : World} {L : List Hp} {f a mn ml : Nat} {n : Nn} {l : Ln} {cut last : Int} {g : KE.Sub} {A : Gr} (hA : AuG g a A) (H : Hd s w (FoL f a mn ml n l cut last g ++ L)) : FoR w f A n l cut last :=
  ⟨⟨a, mn, ml, _, H.obj 0 rfl, hA.rd (H.fz 5 rfl), Mp.rdH H 1 rfl, Mp.rdH H 3 rfl⟩, fun k m row hk => IM.rd H 2 rfl hk, fun k m row hk => IM.rd H 4 rfl hk⟩
def overV (to : ByteArray) : Option Nat → Value
  | some s => .tuple #[.agg #[S to, nI s], .bool true]
  | none => .tuple #[.agg #[S to, I 0], .bool false]
/-- the greatest time of a pair, -1: it is none -/
def timeS (A : Gr) (n : Nn) (r v : ByteArray) (best : Int) (s : Nat) : Int := match nodT n r v s with
  | some t => if takesA A s then max best t else best
  | none => best
def timeF (A : Gr) (n : Nn) (r v : ByteArray) : Int := (List.range A.rows.length).foldl (timeS A n r v) (-1)
theorem cal120 : Cal Tryz.prog 120 := ⟨_, Tryz.func120, rfl, by decide⟩
theorem cal121 : Cal Tryz.prog 121 := ⟨_, Tryz.func121, rfl, by decide⟩
theorem d172 {x : ByteArray} (w : World) : CC Tryz.prog 172 [S x].toArray w (fun r w' => r = .bool false ∧ ExtD w w') := by
  obtain ⟨w0, e0⟩ : ∃ w0, w0 = w := ⟨w, rfl⟩
  subst e0
  have H := Hd.startD w0
  refine CC.of (N := 6) Tryz.func172 rfl rfl rfl ?_
  refine WC.seq ?_
  refine WC.region ?_
  refine l_rd rfl rfl (x_assign ev_c) ?_
  refine WL.nil ?_
  refine WC.seq ?_
  refine WC.region ?_
  refine l_rd rfl rfl (x_move (by conv => lhs; whnf)) ?_
  refine l_rd rfl rfl (x_move (by conv => lhs; whnf)) ?_
  refine l_rdD rfl rfl (x_neqS rfl rfl) (fun h5 => ?_) (fun h5 => ?_)
  ·
    exact absurd rfl h5
  ·
    refine l_rd rfl rfl (x_assign (by conv => lhs; whnf)) ?_
    refine WL.nil ?_
    refine WC.ret ?_
    refine atRet ?_
    exact RetM.one rfl (by (conv => lhs; whnf); try rfl) (⟨rfl, H.belowD 0 rfl⟩)
theorem d121 {x y : ByteArray} (w : World) : CC Tryz.prog 121 [S x, S y].toArray w (fun r w' => r = I (cmpS x y) ∧ ExtD w w') := by
  obtain ⟨w0, e0⟩ : ∃ w0, w0 = w := ⟨w, rfl⟩
  subst e0
  have H := Hd.startD w0
  refine CC.of (N := 20) Tryz.func121 rfl rfl rfl ?_
  refine WC.seq ?_
  refine WC.region ?_
  refine l_rd rfl rfl (x_assign ev_c) ?_
  refine WL.nil ?_
  refine WC.seq ?_
  refine WC.region ?_
  refine l_rd rfl rfl (x_move (by conv => lhs; whnf)) ?_
  refine l_st rfl (s_callL cal172 (d172 _) ?_)
  rintro _ w ⟨rfl, e1⟩
  have H := H.extD e1
  refine l_rd rfl rfl (x_assign (by conv => lhs; whnf)) ?_
  refine WL.nil ?_
  refine WC.seq ?_
  refine WC.region ?_
  refine l_rd rfl rfl (x_move (by conv => lhs; whnf)) ?_
  refine l_st rfl (s_callL cal172 (d172 _) ?_)
  rintro _ w ⟨rfl, e1⟩
  have H := H.extD e1
  refine l_rd rfl rfl (x_assign (by conv => lhs; whnf)) ?_
  refine WL.nil ?_
  refine WC.seq ?_
  refine WC.seq ?_
  refine WC.region ?_
  refine l_rd rfl rfl (x_move (by conv => lhs; whnf)) ?_
  refine WL.nil ?_
  refine WC.cond0 rfl ?_
  refine WC.skip ?_
  refine WC.seq ?_
  refine WC.seq ?_
  refine WC.region ?_
  refine l_rd rfl rfl (x_move (by conv => lhs; whnf)) ?_
  refine WL.nil ?_
  refine WC.cond0 rfl ?_
  refine WC.skip ?_
  refine WC.seq ?_
  refine WC.seq ?_
  refine WC.region ?_
  refine l_rd rfl rfl (x_move (by conv => lhs; whnf)) ?_
  refine l_rd rfl rfl (x_move (by conv => lhs; whnf)) ?_
  refine l_rdD rfl rfl (x_lssS rfl rfl) (fun h16 => ?_) (fun h16 => ?_)
  ·
    refine WL.nil ?_
    refine WC.cond1 rfl ?_
    refine WC.seq ?_
    refine WC.region ?_
    refine l_rd rfl rfl (x_assign ev_c) ?_
    refine WL.nil ?_
    refine WC.ret ?_
    refine atRet ?_
    exact RetM.one rfl (by (conv => lhs; whnf); try rfl) (⟨by rw [cmpS, if_pos h16], H.belowD 0 rfl⟩)
  ·
    refine WL.nil ?_
    refine WC.cond0 rfl ?_
    refine WC.skip ?_
    refine WC.seq ?_
    refine WC.seq ?_
    refine WC.region ?_
    refine l_rd rfl rfl (x_move (by conv => lhs; whnf)) ?_
    refine l_rd rfl rfl (x_move (by conv => lhs; whnf)) ?_
    refine l_rdD rfl rfl (x_gtrS rfl rfl) (fun h19 => ?_) (fun h19 => ?_)
    ·
      refine WL.nil ?_
      refine WC.cond1 rfl ?_
      refine WC.seq ?_
      refine WC.region ?_
      refine l_rd rfl rfl (x_assign ev_c) ?_
      refine WL.nil ?_
      refine WC.ret ?_
      refine atRet ?_
      exact RetM.one rfl (by (conv => lhs; whnf); try rfl) (⟨by rw [cmpS, if_neg h16, if_pos h19], H.belowD 0 rfl⟩)
    ·
      refine WL.nil ?_
      refine WC.cond0 rfl ?_
      refine WC.skip ?_
      refine WC.seq ?_
      refine WC.region ?_
      refine l_rd rfl rfl (x_assign ev_c) ?_
      refine WL.nil ?_
      refine WC.ret ?_
      refine atRet ?_
      exact RetM.one rfl (by (conv => lhs; whnf); try rfl) (⟨by rw [cmpS, if_neg h16, if_neg h19], H.belowD 0 rfl⟩)
theorem d120 {v : Value} {xs : List Int} (w : World) (hx : RdL w v I xs) : CC Tryz.prog 120 [v].toArray w (fun r w' => r = I (orI xs) ∧ ExtD w w') := by
  obtain ⟨w0, e0⟩ : ∃ w0, w0 = w := ⟨w, rfl⟩
  subst e0
  have H := Hd.startD w0
  obtain ⟨a, c, rfl⟩ := hx.shape
  have hle := hx.le
  refine CC.of (N := 18) Tryz.func120 rfl rfl rfl ?_
  refine WC.seq ?_
  refine WC.region ?_
  refine l_rd rfl rfl (x_assign ev_c) ?_
  refine WL.nil ?_
  refine WC.seq ?_
  refine WC.region ?_
  refine l_rd rfl rfl (x_assign ev_c) ?_
  refine WL.nil ?_
  refine WC.seq ?_
  refine WC.seq ?_
  refine WC.region ?_
  refine l_rd rfl rfl (x_move (by conv => lhs; whnf)) ?_
  refine l_rd rfl rfl (x_lenSlice Tryz.underlying176 rfl rfl) ?_
  refine l_rd rfl rfl (x_move ev_c) ?_
  refine WL.nil ?_
  refine WC.block ?_
  refine WC.loop (fun ρ ds w => ∃ k : Nat, k ≤ xs.length ∧ orI (xs.drop k) = orI xs ∧ ρ 8 = I k ∧ ρ 7 = I xs.length ∧ ρ 6 = .slice a xs.length c ∧ ρ 3 = I 0 ∧ ds = [] ∧ Hd (syD w0) w [fr w0]) (fun ρ w => xs.length - (match ρ 8 with | .int _ k => k.toNat | _ => 0)) (⟨0, Nat.zero_le _, rfl, rfl, rfl, rfl, rfl, rfl, H⟩) ?_
  repeat clear H
  rintro ρ ds w ⟨k, hk, he, h8, h7, h6, h3, rfl, H⟩
  refine WC.seq ?_
  refine WC.region ?_
  refine l_rdD rfl rfl (x_lss h8 h7) (fun h9 => ?_) (fun h9 => ?_)
  ·
    refine WL.nil ?_
    refine WC.seq ?_
    refine WC.cond1 rfl ?_
    refine WC.skip ?_
    refine WC.seq ?_
    refine WC.block ?_
    refine WC.seq ?_
    obtain ⟨x, hxk⟩ := lt_get (show k < xs.length by omega)
    obtain ⟨b1, o1, rfl, hc1⟩ := hx.el hxk
    refine WC.region ?_
    refine l_rd rfl rfl (x_indexAddr Tryz.underlying176 ty3 h6 h8 (by omega) (by omega)) ?_
    refine l_rd rfl rfl (x_load Tryz.underlying3 rfl rfl ((H.old 0 rfl).cell hc1)) ?_
    refine l_rd rfl rfl (x_assign (by conv => lhs; whnf)) ?_
    refine WL.nil ?_
    refine WC.seq ?_
    refine WC.region ?_
    refine l_rd rfl rfl (x_move (by conv => lhs; whnf)) ?_
    refine l_rd rfl rfl (x_move h3) ?_
    refine l_rdD rfl rfl (x_neq rfl rfl) (fun h14 => ?_) (fun h14 => ?_)
    ·
      refine WL.nil ?_
      refine WC.cond1 rfl ?_
      refine WC.seq ?_
      refine WC.region ?_
      refine l_rd rfl rfl (x_move (by conv => lhs; whnf)) ?_
      refine l_rd rfl rfl (x_assign (by conv => lhs; whnf)) ?_
      refine WL.nil ?_
      refine WC.ret ?_
      refine atRet ?_
      exact RetM.one rfl (by (conv => lhs; whnf); try rfl) (⟨by rw [← he, or_drop hxk, if_pos h14], H.belowD 0 rfl⟩)
    ·
      refine WL.nil ?_
      refine WC.cond0 rfl ?_
      refine WC.skip ?_
      refine WC.region ?_
      refine l_rd rfl rfl (x_add h8 rfl (by omega) (by omega)) ?_
      refine l_rd rfl rfl (x_move (by conv => lhs; whnf)) ?_
      refine WL.nil ?_
      refine WC.again (⟨k + 1, by omega, by rw [← he, or_drop hxk, if_neg h14], rfl, h7, h6, h3, rfl, H⟩) (by show _ - _ < _ - _; rw [h8]; show xs.length - ((k : Int) + 1).toNat < xs.length - (k : Int).toNat; omega)
  ·
    refine WL.nil ?_
    refine WC.seq ?_
    refine WC.cond0 rfl ?_
    refine WC.exit ?_
    refine WC.seq ?_
    refine WC.region ?_
    refine l_rd rfl rfl (x_move h3) ?_
    refine l_rd rfl rfl (x_assign (by conv => lhs; whnf)) ?_
    refine WL.nil ?_
    refine WC.ret ?_
    refine atRet ?_
    exact RetM.one rfl (by (conv => lhs; whnf); try rfl) (⟨by rw [← he, List.drop_of_length_le (by omega)]; rfl, H.belowD 0 rfl⟩)
/-! ### pairs -/
structure Pc where
  src : ByteArray
  dst : ByteArray
  time : Int
  deriving DecidableEq
instance : Inhabited Pc := ⟨⟨⟨#[]⟩, ⟨#[]⟩, 0⟩⟩
abbrev pcC (p : Pc) : List Value := [S p.src, S p.dst, I p.time]
theorem pcC_len (p : Pc) : (pcC p).length = 3 := rfl
def cmpP (p q : Pc) : Int := orI [cmpS p.src q.src, cmpS p.dst q.dst]
/-- before, by names -/
def pLt (p q : Pc) : Prop := sLt p.src q.src ∨ p.src = q.src ∧ sLt p.dst q.dst
theorem d151 {p q : Pc} (w : World) : CC Tryz.prog 151 [.agg (pcC p).toArray, .agg (pcC q).toArray].toArray w (fun r w' => r = I (orI [cmpS p.src q.src, cmpS p.dst q.dst]) ∧ ExtD w w') := by
  obtain ⟨w0, e0⟩ : ∃ w0, w0 = w := ⟨w, rfl⟩
  subst e0
  have H := Hd.startD w0
  refine CC.of (N := 17) Tryz.func151 rfl rfl rfl ?_
  refine WC.seq ?_
  refine WC.region ?_
  refine l_st rfl (s_box (by conv => lhs; whnf) H fun b2 w H => ?_)
  refine l_st rfl (s_box (by conv => lhs; whnf) H fun b3 w H => ?_)
  refine l_rd rfl rfl (x_assign ev_c) ?_
  refine WL.nil ?_
  refine WC.seq ?_
  refine WC.draw mixed [4, 9, 10, 11] [[], [0], [], [2], [0, 1, 2, 3], [], [5], [], [7], [0, 1, 2, 3, 4, 5, 6, 7, 8], [0, 1, 2, 3, 4, 5, 6, 7, 8, 9], [0, 1, 2, 3, 4, 5, 6, 7, 8, 9, 10], [0, 1, 2, 3, 4, 5, 6, 7, 8, 9, 10, 11]] [0, 1, 2, 3, 5, 6, 7, 8, 4, 9, 10, 11, 12] (by kernel_rfl) ?_
  have H := H.drew
  refine k_rd rfl rfl (RS.of rfl rfl (x_fieldAddr (k := 0) Tryz.underlying43 rfl rfl ty9 (by decide) rfl)) ?_
  refine k_rd rfl rfl (RS.of rfl rfl (x_load Tryz.underlying9 rfl rfl (H.cellL 1 rfl rfl))) ?_
  refine k_rd rfl rfl (RS.of rfl rfl (x_fieldAddr (k := 0) Tryz.underlying43 rfl rfl ty9 (by decide) rfl)) ?_
  refine k_rd rfl rfl (RS.of rfl rfl (x_load Tryz.underlying9 rfl rfl (H.cellL 0 rfl rfl))) ?_
  refine k_rd rfl rfl (RS.of rfl rfl (x_fieldAddr (k := 1) Tryz.underlying43 rfl rfl ty9 (by decide) rfl)) ?_
  refine k_rd rfl rfl (RS.of rfl rfl (x_load Tryz.underlying9 rfl rfl (H.cellL 1 rfl rfl))) ?_
  refine k_rd rfl rfl (RS.of rfl rfl (x_fieldAddr (k := 1) Tryz.underlying43 rfl rfl ty9 (by decide) rfl)) ?_
  refine k_rd rfl rfl (RS.of rfl rfl (x_load Tryz.underlying9 rfl rfl (H.cellL 0 rfl rfl))) ?_
  refine k_st rfl rfl rfl (s_callL cal121 (d121 _) ?_)
  rintro _ w ⟨rfl, e1⟩
  have H := H.extD e1
  refine ⟨⟨RS.of rfl rfl (x_load Tryz.underlying9 rfl rfl (H.cellL 0 rfl rfl)), ⟨RS.of rfl rfl (x_fieldAddr (k := 1) Tryz.underlying43 rfl rfl ty9 (by decide) rfl), ⟨RS.of rfl rfl (x_load Tryz.underlying9 rfl rfl (H.cellL 1 rfl rfl)), ⟨RS.of rfl rfl (x_fieldAddr (k := 1) Tryz.underlying43 rfl rfl ty9 (by decide) rfl), ⟨trivial, ⟨trivial, ⟨trivial, ⟨trivial, trivial⟩⟩⟩⟩⟩⟩⟩⟩, ?_⟩
  refine k_st rfl rfl rfl (s_callL cal121 (d121 _) ?_)
  rintro _ w ⟨rfl, e1⟩
  have H := H.extD e1
  refine ⟨⟨trivial, ⟨trivial, ⟨trivial, ⟨trivial, ⟨trivial, ⟨trivial, ⟨trivial, ⟨trivial, trivial⟩⟩⟩⟩⟩⟩⟩⟩, ?_⟩
  refine k_st rfl rfl rfl (s_buildN (xs := [.tmp 9, .tmp 14]) (vs := [I (cmpS p.src q.src), I (cmpS p.dst q.dst)]) Tryz.underlying176 ty3 rfl rfl rfl rfl (by decide) (by decide) (by simp [Value.oneCell']) H fun b15 w H => ⟨⟨trivial, ⟨trivial, ⟨trivial, ⟨trivial, ⟨trivial, ⟨trivial, ⟨trivial, ⟨trivial, trivial⟩⟩⟩⟩⟩⟩⟩⟩, ?_⟩)
  refine k_st rfl rfl rfl (s_callL cal120 (d120 (xs := [_, _]) _ (H.sl 0 rfl)) ?_)
  rintro _ w ⟨rfl, e1⟩
  have H := H.extD e1
  refine ⟨⟨trivial, ⟨trivial, ⟨trivial, ⟨trivial, ⟨trivial, ⟨trivial, ⟨trivial, ⟨trivial, trivial⟩⟩⟩⟩⟩⟩⟩⟩, ?_⟩
  refine k_rd rfl rfl (RS.of rfl rfl (x_assign (by conv => lhs; whnf))) ?_
  show _
  refine WC.ret ?_
  refine atRet ?_
  exact RetM.one rfl (by (conv => lhs; whnf); try rfl) (⟨rfl, H.belowD 3 rfl⟩)
theorem d86 {p q : Pc} (w : World) : CC Tryz.prog 86 [.agg (pcC p).toArray, .agg (pcC q).toArray].toArray w (fun r w' => r = I (orI [cmpS p.src q.src, cmpS p.dst q.dst]) ∧ ExtD w w') := by
  obtain ⟨w0, e0⟩ : ∃ w0, w0 = w := ⟨w, rfl⟩
  subst e0
  have H := Hd.startD w0
  refine CC.of (N := 17) Tryz.func86 rfl rfl rfl ?_
  refine WC.seq ?_
  refine WC.region ?_
  refine l_st rfl (s_box (by conv => lhs; whnf) H fun b2 w H => ?_)
  refine l_st rfl (s_box (by conv => lhs; whnf) H fun b3 w H => ?_)
  refine l_rd rfl rfl (x_assign ev_c) ?_
  refine WL.nil ?_
  refine WC.seq ?_
  refine WC.draw mixed [4, 9, 10, 11] [[], [0], [], [2], [0, 1, 2, 3], [], [5], [], [7], [0, 1, 2, 3, 4, 5, 6, 7, 8], [0, 1, 2, 3, 4, 5, 6, 7, 8, 9], [0, 1, 2, 3, 4, 5, 6, 7, 8, 9, 10], [0, 1, 2, 3, 4, 5, 6, 7, 8, 9, 10, 11]] [0, 1, 2, 3, 5, 6, 7, 8, 4, 9, 10, 11, 12] (by kernel_rfl) ?_
  have H := H.drew
  refine k_rd rfl rfl (RS.of rfl rfl (x_fieldAddr (k := 0) Tryz.underlying43 rfl rfl ty9 (by decide) rfl)) ?_
  refine k_rd rfl rfl (RS.of rfl rfl (x_load Tryz.underlying9 rfl rfl (H.cellL 1 rfl rfl))) ?_
  refine k_rd rfl rfl (RS.of rfl rfl (x_fieldAddr (k := 0) Tryz.underlying43 rfl rfl ty9 (by decide) rfl)) ?_
  refine k_rd rfl rfl (RS.of rfl rfl (x_load Tryz.underlying9 rfl rfl (H.cellL 0 rfl rfl))) ?_
  refine k_rd rfl rfl (RS.of rfl rfl (x_fieldAddr (k := 1) Tryz.underlying43 rfl rfl ty9 (by decide) rfl)) ?_
  refine k_rd rfl rfl (RS.of rfl rfl (x_load Tryz.underlying9 rfl rfl (H.cellL 1 rfl rfl))) ?_
  refine k_rd rfl rfl (RS.of rfl rfl (x_fieldAddr (k := 1) Tryz.underlying43 rfl rfl ty9 (by decide) rfl)) ?_
  refine k_rd rfl rfl (RS.of rfl rfl (x_load Tryz.underlying9 rfl rfl (H.cellL 0 rfl rfl))) ?_
  refine k_st rfl rfl rfl (s_callL cal121 (d121 _) ?_)
  rintro _ w ⟨rfl, e1⟩
  have H := H.extD e1
  refine ⟨⟨RS.of rfl rfl (x_load Tryz.underlying9 rfl rfl (H.cellL 0 rfl rfl)), ⟨RS.of rfl rfl (x_fieldAddr (k := 1) Tryz.underlying43 rfl rfl ty9 (by decide) rfl), ⟨RS.of rfl rfl (x_load Tryz.underlying9 rfl rfl (H.cellL 1 rfl rfl)), ⟨RS.of rfl rfl (x_fieldAddr (k := 1) Tryz.underlying43 rfl rfl ty9 (by decide) rfl), ⟨trivial, ⟨trivial, ⟨trivial, ⟨trivial, trivial⟩⟩⟩⟩⟩⟩⟩⟩, ?_⟩
  refine k_st rfl rfl rfl (s_callL cal121 (d121 _) ?_)
  rintro _ w ⟨rfl, e1⟩
  have H := H.extD e1
  refine ⟨⟨trivial, ⟨trivial, ⟨trivial, ⟨trivial, ⟨trivial, ⟨trivial, ⟨trivial, ⟨trivial, trivial⟩⟩⟩⟩⟩⟩⟩⟩, ?_⟩
  refine k_st rfl rfl rfl (s_buildN (xs := [.tmp 9, .tmp 14]) (vs := [I (cmpS p.src q.src), I (cmpS p.dst q.dst)]) Tryz.underlying176 ty3 rfl rfl rfl rfl (by decide) (by decide) (by simp [Value.oneCell']) H fun b15 w H => ⟨⟨trivial, ⟨trivial, ⟨trivial, ⟨trivial, ⟨trivial, ⟨trivial, ⟨trivial, ⟨trivial, trivial⟩⟩⟩⟩⟩⟩⟩⟩, ?_⟩)
  refine k_st rfl rfl rfl (s_callL cal120 (d120 (xs := [_, _]) _ (H.sl 0 rfl)) ?_)
  rintro _ w ⟨rfl, e1⟩
  have H := H.extD e1
  refine ⟨⟨trivial, ⟨trivial, ⟨trivial, ⟨trivial, ⟨trivial, ⟨trivial, ⟨trivial, ⟨trivial, trivial⟩⟩⟩⟩⟩⟩⟩⟩, ?_⟩
  refine k_rd rfl rfl (RS.of rfl rfl (x_assign (by conv => lhs; whnf))) ?_
  show _
  refine WC.ret ?_
  refine atRet ?_
  exact RetM.one rfl (by (conv => lhs; whnf); try rfl) (⟨rfl, H.belowD 3 rfl⟩)
end Go.Proofs.YteibnmkikdbndaaGreatDoor
namespace Go.Proofs
open Go.Shelf
def Tryz.sortP_ren : Go.Shelf.Ren := ⟨fun | 6 => 85 | 15 => 154 | 14 => 153 | 28 => 208 | 29 => 209 | 20 => 200 | 21 => 201 | 22 => 202 | 23 => 203 | 24 => 204 | 25 => 205 | 26 => 206 | 27 => 207 | 46 => 237 | 47 => 238 | 48 => 239 | 49 => 240 | 50 => 241 | 57 => 260 | n => n, fun | 22 => 38 | 24 => 43 | 25 => 168 | 3 => 3 | 39 => 263 | 0 => 0 | 53 => 220 | 55 => 314 | 4 => 4 | 46 => 307 | 45 => 306 | 50 => 58 | 5 => 5 | 9 => 9 | 66 => 338 | 70 => 342 | 76 => 357 | 77 => 358 | n => n, fun | n => n⟩
theorem Tryz.sortP : Go.Proofs.SlLaysF0.n6 Tryz.prog Tryz.sortP_ren := {
  mixed := by kernel_rfl
  f6 := ⟨Tryz.f85.name, by decide, Tryz.func85.trans (congrArg some (by kernel_rfl))⟩
  f14 := ⟨Tryz.f153.name, by decide, Tryz.func153.trans (congrArg some (by kernel_rfl))⟩
  f15 := Tryz.func154.trans (congrArg some (by kernel_rfl))
  f20 := ⟨Tryz.f200.name, by decide, Tryz.func200.trans (congrArg some (by kernel_rfl))⟩
  f21 := ⟨Tryz.f201.name, by decide, Tryz.func201.trans (congrArg some (by kernel_rfl))⟩
  f22 := ⟨Tryz.f202.name, by decide, Tryz.func202.trans (congrArg some (by kernel_rfl))⟩
  f23 := ⟨Tryz.f203.name, by decide, Tryz.func203.trans (congrArg some (by kernel_rfl))⟩
  f24 := ⟨Tryz.f204.name, by decide, Tryz.func204.trans (congrArg some (by kernel_rfl))⟩
  f25 := ⟨Tryz.f205.name, by decide, Tryz.func205.trans (congrArg some (by kernel_rfl))⟩
  f26 := ⟨Tryz.f206.name, by decide, Tryz.func206.trans (congrArg some (by kernel_rfl))⟩
  f27 := ⟨Tryz.f207.name, by decide, Tryz.func207.trans (congrArg some (by kernel_rfl))⟩
  f28 := Tryz.func208.trans (congrArg some (by kernel_rfl))
  f29 := Tryz.func209.trans (congrArg some (by kernel_rfl))
  f46 := ⟨Tryz.f237.name, by decide, Tryz.func237.trans (congrArg some (by kernel_rfl))⟩
  f47 := Tryz.func238.trans (congrArg some (by kernel_rfl))
  f48 := Tryz.func239.trans (congrArg some (by kernel_rfl))
  f49 := ⟨Tryz.f240.name, by decide, Tryz.func240.trans (congrArg some (by kernel_rfl))⟩
  f50 := ⟨Tryz.f241.name, by decide, Tryz.func241.trans (congrArg some (by kernel_rfl))⟩
  f57 := ⟨Tryz.f260.name, by decide, Tryz.func260.trans (congrArg some (by kernel_rfl))⟩
  t0 := Tryz.underlying0
  a0 := Tryz.isAgg0
  z0 := Tryz.sizeOf0
  v0 := Tryz.zeroValue0
  t3 := Tryz.underlying3
  a3 := Tryz.isAgg3
  z3 := Tryz.sizeOf3
  v3 := Tryz.zeroValue3
  t4 := Tryz.underlying4
  a4 := Tryz.isAgg4
  z4 := Tryz.sizeOf4
  v4 := Tryz.zeroValue4
  t5 := Tryz.underlying5
  a5 := Tryz.isAgg5
  z5 := Tryz.sizeOf5
  v5 := Tryz.zeroValue5
  t9 := Tryz.underlying9
  a9 := Tryz.isAgg9
  z9 := Tryz.sizeOf9
  v9 := Tryz.zeroValue9
  t22 := Tryz.underlying38
  a22 := Tryz.isAgg38
  z22 := Tryz.sizeOf38
  v22 := Tryz.zeroValue38
  t25 := Tryz.underlying168
  a25 := Tryz.isAgg168
  z25 := Tryz.sizeOf168
  v25 := Tryz.zeroValue168
  t39 := Tryz.underlying263
  a39 := Tryz.isAgg263
  z39 := Tryz.sizeOf263
  v39 := Tryz.zeroValue263
  t45 := Tryz.underlying306
  a45 := Tryz.isAgg306
  z45 := Tryz.sizeOf306
  v45 := Tryz.zeroValue306
  t46 := Tryz.underlying307
  a46 := Tryz.isAgg307
  z46 := Tryz.sizeOf307
  v46 := Tryz.zeroValue307
  t50 := Tryz.underlying58
  a50 := Tryz.isAgg58
  z50 := Tryz.sizeOf58
  v50 := Tryz.zeroValue58
  t53 := Tryz.underlying220
  a53 := Tryz.isAgg220
  z53 := Tryz.sizeOf220
  v53 := Tryz.zeroValue220
  t55 := Tryz.underlying314
  a55 := Tryz.isAgg314
  z55 := Tryz.sizeOf314
  v55 := Tryz.zeroValue314
  t66 := Tryz.underlying338
  a66 := Tryz.isAgg338
  z66 := Tryz.sizeOf338
  v66 := Tryz.zeroValue338
  t70 := Tryz.underlying342
  a70 := Tryz.isAgg342
  z70 := Tryz.sizeOf342
  v70 := Tryz.zeroValue342
  t76 := Tryz.underlying357
  a76 := Tryz.isAgg357
  z76 := Tryz.sizeOf357
  v76 := Tryz.zeroValue357
  t77 := Tryz.underlying358
  a77 := Tryz.isAgg358
  z77 := Tryz.sizeOf358
  v77 := Tryz.zeroValue358 }
end Go.Proofs
namespace Go.Proofs.YteibnmkikdbndaaGreatDoor
open Go Go.RowKit KE Go.Proofs
/-! ### slices.SortFunc at pairs -/
theorem orI2 (a b : Int) : orI [a, b] = if a ≠ 0 then a else b := by
  unfold orI orI orI
  split
  · rfl
  · split <;> omega
theorem cmpS_cases (a b : ByteArray) : (sLt a b ∧ cmpS a b = -1) ∨ (a = b ∧ cmpS a b = 0) ∨ (sLt b a ∧ cmpS a b = 1) := by
  unfold cmpS
  rcases sLt_tri a b with h | h | h
  · left; exact ⟨h, if_pos h⟩
  · right; left; subst h
    exact ⟨rfl, by rw [if_neg (sLt_irr a), if_neg (by simp)]⟩
  · right; right
    refine ⟨h, ?_⟩
    rw [if_neg (sLt_asym h), if_pos]
    rintro (h1 | h1)
    · exact sLt_asym h h1
    · subst h1; exact sLt_irr _ h
theorem cmpP_lt (p q : Pc) : cmpP p q < 0 ↔ pLt p q := by
  unfold cmpP pLt
  rw [orI2]
  rcases cmpS_cases p.src q.src with ⟨h1, e1⟩ | ⟨h1, e1⟩ | ⟨h1, e1⟩ <;> rw [e1]
  · simp [h1]
  · rw [h1]
    rcases cmpS_cases p.dst q.dst with ⟨h2, e2⟩ | ⟨h2, e2⟩ | ⟨h2, e2⟩ <;> rw [e2]
    · simp [h2]
    · rw [h2]; simp [sLt_irr]
    · simp [sLt_irr, sLt_asym h2]
  · have : ¬ p.src = q.src := fun e => sLt_irr q.src (by rw [e] at h1; exact h1)
    simp [sLt_asym h1, this]
theorem pLt_irr (p : Pc) : ¬ pLt p p := by rintro (h | ⟨_, h⟩) <;> exact sLt_irr _ h
theorem pLt_trans {p q r : Pc} (h : pLt p q) (k : pLt q r) : pLt p r := by
  rcases h with h | ⟨h1, h2⟩ <;> rcases k with k | ⟨k1, k2⟩
  · exact .inl (sLt_trans h k)
  · exact .inl (k1 ▸ h)
  · exact .inl (h1 ▸ k)
  · exact .inr ⟨h1.trans k1, sLt_trans h2 k2⟩
theorem pLt_tri (p q : Pc) : pLt p q ∨ (p.src = q.src ∧ p.dst = q.dst) ∨ pLt q p := by
  rcases sLt_tri p.src q.src with h | h | h
  · exact .inl (.inl h)
  · rcases sLt_tri p.dst q.dst with k | k | k
    · exact .inl (.inr ⟨h, k⟩)
    · exact .inr (.inl ⟨h, k⟩)
    · exact .inr (.inr (.inr ⟨h.symm, k⟩))
  · exact .inr (.inr (.inl h))
theorem pLt_asym {p q : Pc} (h : pLt p q) : ¬ pLt q p := fun k => pLt_irr p (pLt_trans h k)
theorem swoP : Sort.SWO (Go.Proofs.ltOf cmpP) where
  irrefl x := decide_eq_false fun h => pLt_irr x ((cmpP_lt x x).1 h)
  trans x y z h1 h2 := decide_eq_true ((cmpP_lt x z).2 (pLt_trans ((cmpP_lt x y).1 (of_decide_eq_true h1)) ((cmpP_lt y z).1 (of_decide_eq_true h2))))
  ntrans x y z h1 h2 := decide_eq_false fun h => by
    have h := (cmpP_lt x z).1 h
    have n1 : ¬ pLt x y := fun k => of_decide_eq_false h1 ((cmpP_lt x y).2 k)
    have n2 : ¬ pLt y z := fun k => of_decide_eq_false h2 ((cmpP_lt y z).2 k)
    rcases pLt_tri x y with k | ⟨k1, k2⟩ | k
    · exact n1 k
    · exact n2 (by unfold pLt at h ⊢; rw [← k1, ← k2]; exact h)
    · exact n2 (pLt_trans k h)
/-- in order by names -/
def srtP (l : List Pc) : Prop := l.Pairwise fun a b => ¬ pLt b a
theorem flatK_list {α : Type} [Inhabited α] {enc : α → List Value} {k : Nat} (hk : 0 < k) (he : ∀ x, (enc x).length = k) (l : List α) : (Go.Sort.flatK enc k l.toArray) = (l.flatMap enc).toArray := by
  apply Array.ext_getElem?
  intro t
  have rhs : (l.flatMap enc).toArray[t]? = (l.flatMap enc)[t]? := by simp
  rw [rhs]
  by_cases ht : t < l.length * k
  · have hq : t / k < l.length := by rw [Nat.div_lt_iff_lt_mul hk]; exact ht
    have hr : t % k < k := Nat.mod_lt _ hk
    have h1 := flat_get he (xs := l) (i := t / k) (j := t % k) (x := l[t / k]) (List.getElem?_eq_getElem hq) (List.getElem?_eq_getElem (by rw [he]; exact hr))
    rw [show t / k * k + t % k = t by rw [Nat.mul_comm]; exact Nat.div_add_mod t k] at h1
    rw [h1]
    have hsz : t < (Go.Sort.flatK enc k l.toArray).size := by simp; exact ht
    rw [Array.getElem?_eq_getElem hsz, ← getElem!_pos (Go.Sort.flatK enc k l.toArray) t hsz, Go.Sort.get_flatK enc k l.toArray t (by simpa using ht)]
    have e1 : (l.toArray)[t / k]! = l[t / k] := by simp [hq]
    have hrl : t % k < (enc l[t / k]).length := by rw [he]; exact hr
    rw [e1, getElem!_pos (enc l[t / k]) (t % k) hrl]
  · rw [Array.getElem?_eq_none (by simp; omega), List.getElem?_eq_none (by rw [flat_len he]; omega)]
theorem c85 {s : Sy} [NoEx s] {L : List Hp} {v : Value} {l : List Pc} {cl : Nat} (w : World) (hcl : cl = 151 ∨ cl = 86) (H : Hd s w (Sl v 43 3 l.length (l.flatMap pcC) :: L)) :
    CC Tryz.prog 85 [v, .func (.func cl) #[] #[]].toArray w (fun r w' => ∃ l', r = .tuple #[] ∧ l'.Perm l ∧ srtP l' ∧ Hd s w' (Sl v 43 3 l.length (l'.flatMap pcC) :: L)) := by
  refine CC.of_calls ?_
  cases l with
  | nil =>
    obtain ⟨a, c, rfl⟩ := (H.sl 0 rfl).shape
    exact (AnyF.slices_SortFunc_none Tryz.sortP a c (.func (.func cl) #[] #[]) w).mono fun e w' ⟨he, hw⟩ => ⟨_, he, [], rfl, List.Perm.refl _, List.Pairwise.nil, by subst hw; exact H⟩
  | cons x r =>
    obtain ⟨b, o, c, rfl, -⟩ := (H.sl 0 rfl).at_ (show 0 < (x :: r).length by simp)
    have hle := (H.sl 0 rfl).1.2
    obtain ⟨hh, hb⟩ := H.holds 0 rfl
    have hcmp : Go.Proofs.CmpLays Tryz.prog cl #[] pcC 3 cmpP b o (x :: r).toArray.size w := fun m os dk hs p q => by
      have key : ∀ W, Calls Tryz.prog cl #[.agg (pcC p).toArray, .agg (pcC q).toArray] W fun e w' => e = .returned (I (cmpP p q)) ∧ ∃ n os', w' = Sort.grow (W.drewN n) os' := fun W => by
        rcases hcl with rfl | rfl
        · exact (CC.calls (d151 W)).mono fun e w' ⟨v, he, hv, hw⟩ => ⟨by rw [he, hv]; rfl, hw.grown⟩
        · exact (CC.calls (d86 W)).mono fun e w' ⟨v, he, hv, hw⟩ => ⟨by rw [he, hv]; rfl, hw.grown⟩
      exact key _
    have eg : ∀ args w, (callFunc cl args).run Tryz.prog w = .ok (.enter cl args) w := fun args w => by
      rcases hcl with rfl | rfl
      · exact run_callFunc ⟨_, Tryz.func151, rfl, by decide⟩
      · exact run_callFunc ⟨_, Tryz.func86, rfl, by decide⟩
    have hH : Go.Sort.HoldsK pcC 3 w b o (x :: r).toArray := by
      unfold Go.Sort.HoldsK
      rw [flatK_list (by decide) pcC_len]; exact hh
    have := AnyQ.slices_SortFunc Tryz.sortP 3 Tryz.isAgg43 Tryz.sizeOf43 pcC (fun _ => rfl) (fun x v hv => by simp [pcC] at hv; rcases hv with rfl | rfl | rfl <;> rfl) cmpP swoP cl #[] b o c (x :: r).toArray w eg hcmp hH hb (by simp at hle ⊢; omega)
    refine Calls.mono this fun e w' ⟨he, d', n, os, hp, hs, hw⟩ => ⟨_, he, d'.toList, rfl, ?_, ?_, ?_⟩
    · have h1 := hp.2.2
      have h2 := hp.1
      rw [show (x :: r).toArray.size = (x :: r).length from rfl] at h1 h2
      have e1 : d'.extract 0 (x :: r).length = d' := by rw [← h2]; simp
      have e2 : (x :: r).toArray.extract 0 (x :: r).length = (x :: r).toArray := by simp
      rw [e1, e2] at h1
      simpa using h1
    · have h2 := hp.1
      unfold srtP
      rw [List.pairwise_iff_getElem]
      intro i j hi hj hij hlt
      have hi' : i < d'.size := by simpa using hi
      have hj' : j < d'.size := by simpa using hj
      have := hs i j (Nat.zero_le _) hij (by rw [← h2]; exact hj')
      rw [getElem!_pos d' i hi', getElem!_pos d' j hj'] at this
      exact of_decide_eq_false this ((cmpP_lt _ _).2 (by simpa using hlt))
    · subst hw
      have h2 := hp.1
      unfold Go.Proofs.sortWorldK
      refine Hd.grew ?_ os
      unfold Go.Sort.putRowK
      have ed : d' = d'.toList.toArray := by simp
      rw [ed, flatK_list (by decide) pcC_len]
      have hl2 : d'.toList.length = (x :: r).length := by rw [Array.length_toList, h2]; rfl
      have H2 := (H.ahead n).putRow (cs' := d'.toList.flatMap pcC) 0 rfl (by rw [flat_len pcC_len, flat_len pcC_len, hl2])
      exact H2
theorem ty71 : Ty Tryz.prog 71 (.pointer none) 1 8 := Ty.of (by kernel_rfl)
theorem ty77 : Ty Tryz.prog 77 (.map none) 1 8 := Ty.of (by kernel_rfl)
theorem ty140 : Ty Tryz.prog 140 (.map none) 1 8 := Ty.of (by kernel_rfl)
theorem ty143 : Ty Tryz.prog 143 (.agg #[(.pointer none), (.map none), (.map none), (.int .i64 0), (.int .i64 0)]) 5 40 := Ty.of (by kernel_rfl)
theorem ty151 : Ty Tryz.prog 151 (.agg #[(.string ⟨#[]⟩), (.int .i64 0)]) 2 24 := Ty.of (by kernel_rfl)
theorem cal53 : Cal Tryz.prog 53 := ⟨_, Tryz.func53, rfl, by decide⟩
theorem cal115 : Cal Tryz.prog 115 := ⟨_, Tryz.func115, rfl, by decide⟩
theorem maxI (a b : Int) : (if a < b then b else a) = max a b := by split <;> omega
theorem minI (a b : Int) : (if b < a then b else a) = min a b := by split <;> omega
def FoA (w : World) (f : Nat) (A : Gr) : Prop := ∃ (a : Nat) (x1 x2 x3 x4 : Value) (f0 : Nat × Nat), w.heap[f]? = some (.cells #[.pointer (some ⟨a, 0, none⟩), x1, x2, x3, x4] 143 f0) ∧ AuR w a A
theorem FoA.of {s : Sy} {w : World} {L : List Hp} {f a mn ml : Nat} {cut last : Int} {g : KE.Sub} {A : Gr} (hA : AuG g a A) (H : Hd s w L) (i : Nat) (hi : L[i]? = some (pt f (.cells (foC a mn ml cut last).toArray 143 (0, 0)))) (j : Nat) (hj : L[j]? = some (fz g)) : FoA w f A := ⟨_, _, _, _, _, _, H.obj i hi, hA.rd (H.fz j hj)⟩
def okA (A : Gr) : Prop := A.ends.length = A.rows.length ∧ 1 ≤ A.rows.length ∧ A.rows.length ≤ 256
theorem timeS_n {A : Gr} {n : Nn} {r v : ByteArray} {best : Int} {s : Nat} (h : nodT n r v s = none) : timeS A n r v best s = best := by unfold timeS; rw [h]
theorem timeS_y {A : Gr} {n : Nn} {r v : ByteArray} {best t : Int} {s : Nat} (h : nodT n r v s = some t) (k : takesA A s = true) : timeS A n r v best s = max best t := by unfold timeS; rw [h]; simp only [k, if_true]
theorem timeS_f {A : Gr} {n : Nn} {r v : ByteArray} {best t : Int} {s : Nat} (h : nodT n r v s = some t) (k : takesA A s = false) : timeS A n r v best s = best := by unfold timeS; rw [h]; simp [k]
theorem c72 {f : Nat} {A : Gr} {n : Nn} {l : Ln} {cut last : Int} (w : World) (hF : FoR w f A n l cut last) : CC Tryz.prog 72 [.pointer (some ⟨f, 0, none⟩)].toArray w (fun r w' => r = .bool true ∧ Ext w w') := by
  obtain ⟨w0, e0⟩ : ∃ w0, w0 = w := ⟨w, rfl⟩
  subst e0
  have H := Hd.start w0
  have hFF := hF
  obtain ⟨⟨a, mn, ml, f0, hf, hA, hmn, hml⟩, hni, hli⟩ := hF
  refine CC.of (N := 12) Tryz.func72 rfl rfl rfl ?_
  refine WC.seq ?_
  refine WC.region ?_
  refine l_rd rfl rfl (x_assign ev_c) ?_
  refine WL.nil ?_
  refine WC.seq ?_
  refine WC.region ?_
  refine l_rd rfl rfl (x_move (by conv => lhs; whnf)) ?_
  refine l_rd rfl rfl (x_neqPN Tryz.underlying74 rfl) ?_
  refine l_rd rfl rfl (x_move (by conv => lhs; whnf)) ?_
  refine l_gy (wantY rfl rfl rfl) rfl rfl (x_move (by conv => lhs; whnf)) ?_
  refine l_gy (wantY rfl rfl rfl) rfl rfl (x_nilCheck rfl) ?_
  refine l_gy (wantY rfl rfl rfl) rfl rfl (x_fieldAddr (k := 1) Tryz.underlying143 rfl rfl ty140 (by decide) rfl) ?_
  refine l_gy (wantY rfl rfl rfl) rfl rfl (x_load Tryz.underlying140 rfl rfl (cell_ofL ((H.old 0 rfl) _ _ hf) rfl)) ?_
  refine l_gy (wantY rfl rfl rfl) rfl rfl (x_neqMN Tryz.underlying140 rfl) ?_
  refine l_rd rfl rfl (x_pick1 rfl (by conv => lhs; whnf)) ?_
  refine l_rd rfl rfl (x_assign (by conv => lhs; whnf)) ?_
  refine WL.nil ?_
  refine WC.ret ?_
  refine atRet ?_
  exact RetM.one rfl (by (conv => lhs; whnf); try rfl) (⟨rfl, H.below 0 rfl⟩)
theorem c150 {sn : Nat} {lab to : ByteArray} {f : Nat} {A : Gr} (w : World) (hF : FoA w f A) : CC Tryz.prog 150 [.pointer (some ⟨f, 0, none⟩), nI sn, S lab, S to].toArray w (fun r w' => r = overV to (stepA A sn lab) ∧ Ext w w') := by
  obtain ⟨w0, e0⟩ : ∃ w0, w0 = w := ⟨w, rfl⟩
  subst e0
  have H := Hd.start w0
  obtain ⟨a, x1, x2, x3, x4, f0, hf, hA⟩ := hF
  refine CC.of (N := 26) Tryz.func150 rfl rfl rfl ?_
  refine WC.seq ?_
  refine WC.region ?_
  refine l_st rfl (s_alloc ty151 H fun b8 w H => ?_)
  refine l_rd rfl rfl (x_assign ev_c) ?_
  refine WL.nil ?_
  refine WC.seq ?_
  cases hst : stepA A sn lab with
  | none =>
    refine WC.region ?_
    refine l_rd rfl rfl (x_move (by conv => lhs; whnf)) ?_
    refine l_rd rfl rfl (x_nilCheck rfl) ?_
    refine l_rd rfl rfl (x_fieldAddr (k := 0) Tryz.underlying143 rfl rfl ty71 (by decide) rfl) ?_
    refine l_rd rfl rfl (x_load Tryz.underlying71 rfl rfl (cell_ofL ((H.old 1 rfl) _ _ hf) rfl)) ?_
    refine l_rd rfl rfl (x_move (by conv => lhs; whnf)) ?_
    refine l_rd rfl rfl (x_move (by conv => lhs; whnf)) ?_
    refine l_st rfl (s_callL cal115 (c115 _ (hA.old (H.old 1 rfl))) ?_)
    rintro r w ⟨hr1, e1⟩
    have H := H.ext e1
    obtain rfl : r = .tuple #[I 0, .bool false] := hr1.trans (by rw [hst]; rfl)
    refine l_rd rfl rfl (x_move (by conv => lhs; whnf)) ?_
    refine l_rd rfl rfl (x_extract rfl rfl) ?_
    refine l_rd rfl rfl (x_extract rfl rfl) ?_
    refine l_rd rfl rfl (x_assign (by conv => lhs; whnf)) ?_
    refine l_rd rfl rfl (x_assign (by conv => lhs; whnf)) ?_
    refine WL.nil ?_
    refine WC.seq ?_
    refine WC.region ?_
    refine l_rd rfl rfl (x_move (by conv => lhs; whnf)) ?_
    refine l_rd rfl rfl (x_move (by conv => lhs; whnf)) ?_
    refine l_rd rfl rfl (x_buildL (pl := [(0, 1), (1, 1)]) (cells := [S to, I 0]) Tryz.underlying151 ty151 (by kernel_rfl) rfl) ?_
    refine l_rd rfl rfl (x_move (by conv => lhs; whnf)) ?_
    refine l_no (s_stA 0 rfl ty151 rfl (by conv => lhs; whnf) rfl rfl rfl H fun w H => ?_)
    refine l_rd rfl rfl (x_assign (by conv => lhs; whnf)) ?_
    refine WL.nil ?_
    refine WC.ret ?_
    refine atRet ?_
    exact RetM.cellAT (vs := [_, _]) rfl (by (conv => lhs; whnf); try rfl) (by (conv => lhs; whnf); try rfl) Tryz.underlying151 rfl ty151 rfl (H.cellsL 0 rfl rfl) (⟨rfl, H.below 1 rfl⟩)
  | some s2 =>
    refine WC.region ?_
    refine l_rd rfl rfl (x_move (by conv => lhs; whnf)) ?_
    refine l_rd rfl rfl (x_nilCheck rfl) ?_
    refine l_rd rfl rfl (x_fieldAddr (k := 0) Tryz.underlying143 rfl rfl ty71 (by decide) rfl) ?_
    refine l_rd rfl rfl (x_load Tryz.underlying71 rfl rfl (cell_ofL ((H.old 1 rfl) _ _ hf) rfl)) ?_
    refine l_rd rfl rfl (x_move (by conv => lhs; whnf)) ?_
    refine l_rd rfl rfl (x_move (by conv => lhs; whnf)) ?_
    refine l_st rfl (s_callL cal115 (c115 _ (hA.old (H.old 1 rfl))) ?_)
    rintro r w ⟨hr1, e1⟩
    have H := H.ext e1
    obtain rfl : r = .tuple #[nI s2, .bool true] := hr1.trans (by rw [hst]; rfl)
    refine l_rd rfl rfl (x_move (by conv => lhs; whnf)) ?_
    refine l_rd rfl rfl (x_extract rfl rfl) ?_
    refine l_rd rfl rfl (x_extract rfl rfl) ?_
    refine l_rd rfl rfl (x_assign (by conv => lhs; whnf)) ?_
    refine l_rd rfl rfl (x_assign (by conv => lhs; whnf)) ?_
    refine WL.nil ?_
    refine WC.seq ?_
    refine WC.region ?_
    refine l_rd rfl rfl (x_move (by conv => lhs; whnf)) ?_
    refine l_rd rfl rfl (x_move (by conv => lhs; whnf)) ?_
    refine l_rd rfl rfl (x_buildL (pl := [(0, 1), (1, 1)]) (cells := [S to, nI s2]) Tryz.underlying151 ty151 (by kernel_rfl) rfl) ?_
    refine l_rd rfl rfl (x_move (by conv => lhs; whnf)) ?_
    refine l_no (s_stA 0 rfl ty151 rfl (by conv => lhs; whnf) rfl rfl rfl H fun w H => ?_)
    refine l_rd rfl rfl (x_assign (by conv => lhs; whnf)) ?_
    refine WL.nil ?_
    refine WC.ret ?_
    refine atRet ?_
    exact RetM.cellAT (vs := [_, _]) rfl (by (conv => lhs; whnf); try rfl) (by (conv => lhs; whnf); try rfl) Tryz.underlying151 rfl ty151 rfl (H.cellsL 0 rfl rfl) (⟨rfl, H.below 1 rfl⟩)
theorem c79 {f : Nat} {A : Gr} {rt vx : ByteArray} (hE : okA A)  {n : Nn} {l : Ln} {cut last : Int} (w : World) (hF : FoR w f A n l cut last) : CC Tryz.prog 79 [.pointer (some ⟨f, 0, none⟩), .agg #[S rt, S vx]].toArray w (fun r w' => r = I (timeF A n rt vx) ∧ Ext w w') := by
  obtain ⟨w0, e0⟩ : ∃ w0, w0 = w := ⟨w, rfl⟩
  subst e0
  have H := Hd.start w0
  have hFF := hF
  obtain ⟨⟨a, mn, ml, f0, hf, hA, hmn, hml⟩, hni, hli⟩ := hF
  refine CC.of (N := 46) Tryz.func79 rfl rfl rfl ?_
  refine WC.seq ?_
  refine WC.region ?_
  refine l_st rfl (s_box (by conv => lhs; whnf) H fun b3 w H => ?_)
  refine l_rd rfl rfl (x_assign ev_c) ?_
  refine WL.nil ?_
  refine WC.seq ?_
  refine WC.region ?_
  refine l_rd rfl rfl (x_assign ev_c) ?_
  refine WL.nil ?_
  refine WC.seq ?_
  refine WC.seq ?_
  refine WC.region ?_
  refine l_rd rfl rfl (x_move (by conv => lhs; whnf)) ?_
  refine l_rd rfl rfl (x_nilCheck rfl) ?_
  refine l_rd rfl rfl (x_fieldAddr (k := 0) Tryz.underlying143 rfl rfl ty71 (by decide) rfl) ?_
  refine l_rd rfl rfl (x_load Tryz.underlying71 rfl rfl (cell_ofL ((H.old 1 rfl) _ _ hf) rfl)) ?_
  refine l_st rfl (s_callL cal51 (c51 _ (hA.old (H.old 1 rfl))) ?_)
  rintro _ w ⟨rfl, e1⟩
  have H := H.ext e1
  refine l_rd rfl rfl (x_move ev_c) ?_
  refine WL.nil ?_
  refine WC.block ?_
  refine WC.loop (fun ρ ds w => ∃ k : Nat, k ≤ A.rows.length ∧ ρ 14 = I k ∧ ρ 13 = I A.rows.length ∧ ρ 3 = .pointer (some ⟨b3, 0, none⟩) ∧ ρ 0 = .pointer (some ⟨f, 0, none⟩) ∧ ρ 5 = I ((List.range k).foldl (timeS A n rt vx) (-1)) ∧ ds = [] ∧ Hd (sy w0) w [pt b3 (.cells #[S rt, S vx] 160 (0, 0)), fr w0]) (fun ρ w => A.rows.length - (match ρ 14 with | .int _ k => k.toNat | _ => 0)) (⟨0, Nat.zero_le _, rfl, rfl, rfl, rfl, rfl, rfl, H⟩) ?_
  repeat clear H
  rintro ρ ds w ⟨k, hk, h14, h13, h3, h0, h5, rfl, H⟩
  have hE3 := hE.2.2
  refine WC.seq ?_
  refine WC.region ?_
  refine l_rdD rfl rfl (x_lss h14 h13) (fun h15 => ?_) (fun h15 => ?_)
  ·
    refine WL.nil ?_
    refine WC.seq ?_
    refine WC.cond1 rfl ?_
    refine WC.skip ?_
    refine WC.seq ?_
    refine WC.block ?_
    refine WC.seq ?_
    refine WC.region ?_
    refine l_rd rfl rfl (x_move h14) ?_
    refine l_rd rfl rfl (x_assign (by conv => lhs; whnf)) ?_
    refine WL.nil ?_
    refine WC.seq ?_
    cases hn : nodT n rt vx k with
    | none =>
      refine WC.draw mixed [] [[], [0], [0, 1], [0, 1, 2], [], [4], [], [4, 5, 6], [0, 1, 2, 3, 4, 5, 6, 7], [], [9], [0, 1, 2, 3, 4, 5, 6, 7, 8, 9, 10], [0, 1, 2, 3, 4, 5, 6, 7, 8, 9, 10, 11], [0, 1, 2, 3, 4, 5, 6, 7, 8, 9, 10, 11, 12], [0, 1, 2, 3, 4, 5, 6, 7, 8, 9, 10, 11, 12], [0, 1, 2, 3, 4, 5, 6, 7, 8, 9, 10, 11, 12, 13], [0, 1, 2, 3, 4, 5, 6, 7, 8, 9, 10, 11, 12, 13, 14, 15]] [0, 1, 2, 3, 4, 5, 6, 7, 8, 9, 10, 11, 12, 13, 14, 15, 16] (by kernel_rfl) ?_
      have H := H.drew
      refine k_rd rfl rfl (RS.of rfl rfl (x_move h0)) ?_
      refine k_rd rfl rfl (RS.of rfl rfl (x_nilCheck rfl)) ?_
      refine k_rd rfl rfl (RS.of rfl rfl (x_fieldAddr (k := 1) Tryz.underlying143 rfl rfl ty140 (by decide) rfl)) ?_
      refine k_rd rfl rfl (RS.of rfl rfl (x_load Tryz.underlying140 rfl rfl (cell_ofL ((H.old 1 rfl) _ _ hf) rfl))) ?_
      refine k_rd rfl rfl (RS.of rfl rfl (x_fieldAddr (k := 1) Tryz.underlying160 rfl rfl ty9 (by decide) h3)) ?_
      refine k_rd rfl rfl (RS.of rfl rfl (x_load Tryz.underlying9 rfl rfl (H.cellL 0 rfl rfl))) ?_
      refine k_rd rfl rfl (RS.of rfl rfl (x_move (by conv => lhs; whnf))) ?_
      refine k_rd rfl rfl (RS.of rfl rfl (x_buildL (pl := [(0, 1), (1, 1)]) (cells := [S vx, nI k]) Tryz.underlying151 ty151 (by kernel_rfl) rfl)) ?_
      refine k_rd rfl rfl (RS.of rfl rfl (x_lookR TSp Tryz.underlying140 ty77 rfl rfl (hmn.old (H.old 1 rfl)) (show _ = optM (glook (vx, k) n) from lk_pt))) ?_
      refine k_rd rfl rfl (RS.of rfl rfl (x_fieldAddr (k := 0) Tryz.underlying160 rfl rfl ty9 (by decide) h3)) ?_
      refine k_rd rfl rfl (RS.of rfl rfl (x_load Tryz.underlying9 rfl rfl (H.cellL 0 rfl rfl))) ?_
      refine k_rd rfl rfl (RS.of rfl rfl (x_look2 (f := I) (o := glook (vx, k) n) TS Tryz.underlying77 ty3 rfl rfl (fun m row h => (hni _ m row h).old (H.old 1 rfl)) (show lkV true _ (Option.map I (nodT n rt vx k)) = Value.tuple #[I 0, .bool false] by rw [hn]; rfl))) ?_
      refine k_rd rfl rfl (RS.of rfl rfl (x_move (by conv => lhs; whnf))) ?_
      refine k_rd rfl rfl (RS.of rfl rfl (x_extract rfl rfl)) ?_
      refine k_rd rfl rfl (RS.of rfl rfl (x_extract rfl rfl)) ?_
      refine k_rd rfl rfl (RS.of rfl rfl (x_assign (by conv => lhs; whnf))) ?_
      refine k_rd rfl rfl (RS.of rfl rfl (x_assign (by conv => lhs; whnf))) ?_
      show _
      refine WC.seq ?_
      refine WC.region ?_
      refine l_rd rfl rfl (x_move (by conv => lhs; whnf)) ?_
      refine l_rd rfl rfl (x_move (by conv => lhs; whnf)) ?_
      refine l_gn (wantN rfl rfl rfl) rfl ?_
      refine l_gn (wantN rfl rfl rfl) rfl ?_
      refine l_gn (wantN rfl rfl rfl) rfl ?_
      refine l_gn (wantN rfl rfl rfl) rfl ?_
      refine l_gn (wantN rfl rfl rfl) rfl ?_
      refine l_gn (wantN rfl rfl rfl) rfl ?_
      refine l_rd rfl rfl (x_pick0 rfl ev_c) ?_
      refine WL.nil ?_
      refine WC.cond0 rfl ?_
      refine WC.skip ?_
      refine WC.region ?_
      refine l_rd rfl rfl (x_add h14 rfl (by omega) (by omega)) ?_
      refine l_rd rfl rfl (x_move (by conv => lhs; whnf)) ?_
      refine WL.nil ?_
      refine WC.again (⟨k + 1, by omega, rfl, h13, h3, h0, by rw [List.range_succ, List.foldl_append, List.foldl_cons, List.foldl_nil, timeS_n hn]; exact h5, rfl, H⟩) (by show _ - _ < _ - _; rw [h14]; show A.rows.length - ((k : Int) + 1).toNat < A.rows.length - (k : Int).toNat; omega)
    | some t =>
      cases hk2 : takesA A k
      ·
        refine WC.draw mixed [] [[], [0], [0, 1], [0, 1, 2], [], [4], [], [4, 5, 6], [0, 1, 2, 3, 4, 5, 6, 7], [], [9], [0, 1, 2, 3, 4, 5, 6, 7, 8, 9, 10], [0, 1, 2, 3, 4, 5, 6, 7, 8, 9, 10, 11], [0, 1, 2, 3, 4, 5, 6, 7, 8, 9, 10, 11, 12], [0, 1, 2, 3, 4, 5, 6, 7, 8, 9, 10, 11, 12], [0, 1, 2, 3, 4, 5, 6, 7, 8, 9, 10, 11, 12, 13], [0, 1, 2, 3, 4, 5, 6, 7, 8, 9, 10, 11, 12, 13, 14, 15]] [0, 1, 2, 3, 4, 5, 6, 7, 8, 9, 10, 11, 12, 13, 14, 15, 16] (by kernel_rfl) ?_
        have H := H.drew
        refine k_rd rfl rfl (RS.of rfl rfl (x_move h0)) ?_
        refine k_rd rfl rfl (RS.of rfl rfl (x_nilCheck rfl)) ?_
        refine k_rd rfl rfl (RS.of rfl rfl (x_fieldAddr (k := 1) Tryz.underlying143 rfl rfl ty140 (by decide) rfl)) ?_
        refine k_rd rfl rfl (RS.of rfl rfl (x_load Tryz.underlying140 rfl rfl (cell_ofL ((H.old 1 rfl) _ _ hf) rfl))) ?_
        refine k_rd rfl rfl (RS.of rfl rfl (x_fieldAddr (k := 1) Tryz.underlying160 rfl rfl ty9 (by decide) h3)) ?_
        refine k_rd rfl rfl (RS.of rfl rfl (x_load Tryz.underlying9 rfl rfl (H.cellL 0 rfl rfl))) ?_
        refine k_rd rfl rfl (RS.of rfl rfl (x_move (by conv => lhs; whnf))) ?_
        refine k_rd rfl rfl (RS.of rfl rfl (x_buildL (pl := [(0, 1), (1, 1)]) (cells := [S vx, nI k]) Tryz.underlying151 ty151 (by kernel_rfl) rfl)) ?_
        refine k_rd rfl rfl (RS.of rfl rfl (x_lookR TSp Tryz.underlying140 ty77 rfl rfl (hmn.old (H.old 1 rfl)) (show _ = optM (glook (vx, k) n) from lk_pt))) ?_
        refine k_rd rfl rfl (RS.of rfl rfl (x_fieldAddr (k := 0) Tryz.underlying160 rfl rfl ty9 (by decide) h3)) ?_
        refine k_rd rfl rfl (RS.of rfl rfl (x_load Tryz.underlying9 rfl rfl (H.cellL 0 rfl rfl))) ?_
        refine k_rd rfl rfl (RS.of rfl rfl (x_look2 (f := I) (o := glook (vx, k) n) TS Tryz.underlying77 ty3 rfl rfl (fun m row h => (hni _ m row h).old (H.old 1 rfl)) (show lkV true _ (Option.map I (nodT n rt vx k)) = Value.tuple #[I t, .bool true] by rw [hn]; rfl))) ?_
        refine k_rd rfl rfl (RS.of rfl rfl (x_move (by conv => lhs; whnf))) ?_
        refine k_rd rfl rfl (RS.of rfl rfl (x_extract rfl rfl)) ?_
        refine k_rd rfl rfl (RS.of rfl rfl (x_extract rfl rfl)) ?_
        refine k_rd rfl rfl (RS.of rfl rfl (x_assign (by conv => lhs; whnf))) ?_
        refine k_rd rfl rfl (RS.of rfl rfl (x_assign (by conv => lhs; whnf))) ?_
        show _
        refine WC.seq ?_
        refine WC.region ?_
        refine l_rd rfl rfl (x_move (by conv => lhs; whnf)) ?_
        refine l_rd rfl rfl (x_move (by conv => lhs; whnf)) ?_
        refine l_gy (wantY rfl rfl rfl) rfl rfl (x_move h0) ?_
        refine l_gy (wantY rfl rfl rfl) rfl rfl (x_nilCheck rfl) ?_
        refine l_gy (wantY rfl rfl rfl) rfl rfl (x_fieldAddr (k := 0) Tryz.underlying143 rfl rfl ty71 (by decide) rfl) ?_
        refine l_gy (wantY rfl rfl rfl) rfl rfl (x_load Tryz.underlying71 rfl rfl (cell_ofL ((H.old 1 rfl) _ _ hf) rfl)) ?_
        refine l_gy (wantY rfl rfl rfl) rfl rfl (x_move (by conv => lhs; whnf)) ?_
        refine l_gst (wantY rfl rfl rfl) rfl (s_callL cal53 (c53 (s := k) _ (hA.old (H.old 1 rfl)) hE.1) ?_)
        rintro r w ⟨hr1, e1⟩
        have H := H.ext e1
        obtain rfl : r = .bool false := hr1.trans (by rw [hk2])
        refine l_rd rfl rfl (x_pick1 rfl (by conv => lhs; whnf)) ?_
        refine WL.nil ?_
        refine WC.cond0 rfl ?_
        refine WC.skip ?_
        refine WC.region ?_
        refine l_rd rfl rfl (x_add h14 rfl (by omega) (by omega)) ?_
        refine l_rd rfl rfl (x_move (by conv => lhs; whnf)) ?_
        refine WL.nil ?_
        refine WC.again (⟨k + 1, by omega, rfl, h13, h3, h0, by rw [List.range_succ, List.foldl_append, List.foldl_cons, List.foldl_nil, timeS_f hn hk2]; exact h5, rfl, H⟩) (by show _ - _ < _ - _; rw [h14]; show A.rows.length - ((k : Int) + 1).toNat < A.rows.length - (k : Int).toNat; omega)
      ·
        refine WC.draw mixed [] [[], [0], [0, 1], [0, 1, 2], [], [4], [], [4, 5, 6], [0, 1, 2, 3, 4, 5, 6, 7], [], [9], [0, 1, 2, 3, 4, 5, 6, 7, 8, 9, 10], [0, 1, 2, 3, 4, 5, 6, 7, 8, 9, 10, 11], [0, 1, 2, 3, 4, 5, 6, 7, 8, 9, 10, 11, 12], [0, 1, 2, 3, 4, 5, 6, 7, 8, 9, 10, 11, 12], [0, 1, 2, 3, 4, 5, 6, 7, 8, 9, 10, 11, 12, 13], [0, 1, 2, 3, 4, 5, 6, 7, 8, 9, 10, 11, 12, 13, 14, 15]] [0, 1, 2, 3, 4, 5, 6, 7, 8, 9, 10, 11, 12, 13, 14, 15, 16] (by kernel_rfl) ?_
        have H := H.drew
        refine k_rd rfl rfl (RS.of rfl rfl (x_move h0)) ?_
        refine k_rd rfl rfl (RS.of rfl rfl (x_nilCheck rfl)) ?_
        refine k_rd rfl rfl (RS.of rfl rfl (x_fieldAddr (k := 1) Tryz.underlying143 rfl rfl ty140 (by decide) rfl)) ?_
        refine k_rd rfl rfl (RS.of rfl rfl (x_load Tryz.underlying140 rfl rfl (cell_ofL ((H.old 1 rfl) _ _ hf) rfl))) ?_
        refine k_rd rfl rfl (RS.of rfl rfl (x_fieldAddr (k := 1) Tryz.underlying160 rfl rfl ty9 (by decide) h3)) ?_
        refine k_rd rfl rfl (RS.of rfl rfl (x_load Tryz.underlying9 rfl rfl (H.cellL 0 rfl rfl))) ?_
        refine k_rd rfl rfl (RS.of rfl rfl (x_move (by conv => lhs; whnf))) ?_
        refine k_rd rfl rfl (RS.of rfl rfl (x_buildL (pl := [(0, 1), (1, 1)]) (cells := [S vx, nI k]) Tryz.underlying151 ty151 (by kernel_rfl) rfl)) ?_
        refine k_rd rfl rfl (RS.of rfl rfl (x_lookR TSp Tryz.underlying140 ty77 rfl rfl (hmn.old (H.old 1 rfl)) (show _ = optM (glook (vx, k) n) from lk_pt))) ?_
        refine k_rd rfl rfl (RS.of rfl rfl (x_fieldAddr (k := 0) Tryz.underlying160 rfl rfl ty9 (by decide) h3)) ?_
        refine k_rd rfl rfl (RS.of rfl rfl (x_load Tryz.underlying9 rfl rfl (H.cellL 0 rfl rfl))) ?_
        refine k_rd rfl rfl (RS.of rfl rfl (x_look2 (f := I) (o := glook (vx, k) n) TS Tryz.underlying77 ty3 rfl rfl (fun m row h => (hni _ m row h).old (H.old 1 rfl)) (show lkV true _ (Option.map I (nodT n rt vx k)) = Value.tuple #[I t, .bool true] by rw [hn]; rfl))) ?_
        refine k_rd rfl rfl (RS.of rfl rfl (x_move (by conv => lhs; whnf))) ?_
        refine k_rd rfl rfl (RS.of rfl rfl (x_extract rfl rfl)) ?_
        refine k_rd rfl rfl (RS.of rfl rfl (x_extract rfl rfl)) ?_
        refine k_rd rfl rfl (RS.of rfl rfl (x_assign (by conv => lhs; whnf))) ?_
        refine k_rd rfl rfl (RS.of rfl rfl (x_assign (by conv => lhs; whnf))) ?_
        show _
        refine WC.seq ?_
        refine WC.region ?_
        refine l_rd rfl rfl (x_move (by conv => lhs; whnf)) ?_
        refine l_rd rfl rfl (x_move (by conv => lhs; whnf)) ?_
        refine l_gy (wantY rfl rfl rfl) rfl rfl (x_move h0) ?_
        refine l_gy (wantY rfl rfl rfl) rfl rfl (x_nilCheck rfl) ?_
        refine l_gy (wantY rfl rfl rfl) rfl rfl (x_fieldAddr (k := 0) Tryz.underlying143 rfl rfl ty71 (by decide) rfl) ?_
        refine l_gy (wantY rfl rfl rfl) rfl rfl (x_load Tryz.underlying71 rfl rfl (cell_ofL ((H.old 1 rfl) _ _ hf) rfl)) ?_
        refine l_gy (wantY rfl rfl rfl) rfl rfl (x_move (by conv => lhs; whnf)) ?_
        refine l_gst (wantY rfl rfl rfl) rfl (s_callL cal53 (c53 (s := k) _ (hA.old (H.old 1 rfl)) hE.1) ?_)
        rintro r w ⟨hr1, e1⟩
        have H := H.ext e1
        obtain rfl : r = .bool true := hr1.trans (by rw [hk2])
        refine l_rd rfl rfl (x_pick1 rfl (by conv => lhs; whnf)) ?_
        refine WL.nil ?_
        refine WC.cond1 rfl ?_
        refine WC.region ?_
        refine l_rd rfl rfl (x_move h5) ?_
        refine l_rd rfl rfl (x_move (by conv => lhs; whnf)) ?_
        refine l_rd rfl rfl (x_max rfl rfl) ?_
        refine l_rd rfl rfl (x_assign (by conv => lhs; whnf)) ?_
        refine WL.nil ?_
        refine WC.region ?_
        refine l_rd rfl rfl (x_add h14 rfl (by omega) (by omega)) ?_
        refine l_rd rfl rfl (x_move (by conv => lhs; whnf)) ?_
        refine WL.nil ?_
        refine WC.again (⟨k + 1, by omega, rfl, h13, h3, h0, by rw [List.range_succ, List.foldl_append, List.foldl_cons, List.foldl_nil, timeS_y hn hk2]; exact congrArg I (maxI _ _), rfl, H⟩) (by show _ - _ < _ - _; rw [h14]; show A.rows.length - ((k : Int) + 1).toNat < A.rows.length - (k : Int).toNat; omega)
  ·
    refine WL.nil ?_
    refine WC.seq ?_
    refine WC.cond0 rfl ?_
    refine WC.exit ?_
    refine WC.seq ?_
    refine WC.region ?_
    refine l_rd rfl rfl (x_move h5) ?_
    refine l_rd rfl rfl (x_assign (by conv => lhs; whnf)) ?_
    refine WL.nil ?_
    refine WC.ret ?_
    refine atRet ?_
    exact RetM.one rfl (by (conv => lhs; whnf); try rfl) (⟨by rw [show k = A.rows.length by omega]; rfl, H.below 1 rfl⟩)
theorem c31 {s : Sy} [NoEx s] {L : List Hp} {g : KE.Sub} {a : Nat} {A : Gr} (w : World) (hA : AuG g a A) (hpos : 1 ≤ A.rows.length) (H : Hd s w (fz g :: L)) : CC Tryz.prog 31 [.pointer (some ⟨a, 0, none⟩)].toArray w (fun r w' => ∃ f mn ml : Nat, r = .tuple #[.pointer (some ⟨f, 0, none⟩), I 0] ∧ Hd s w' (FoL f a mn ml [] [] (-1) (-1) g ++ L)) := by
  refine CC.of (N := 16) Tryz.func31 rfl rfl rfl ?_
  refine WC.seq ?_
  refine WC.region ?_
  refine l_rd rfl rfl (x_assign ev_c) ?_
  refine l_rd rfl rfl (x_assign ev_c) ?_
  refine WL.nil ?_
  refine WC.seq ?_
  refine WC.seq ?_
  refine WC.region ?_
  refine l_rd rfl rfl (x_move (by conv => lhs; whnf)) ?_
  refine l_rd rfl rfl (x_eqlPN Tryz.underlying71 rfl) ?_
  refine l_rd rfl rfl (x_move (by conv => lhs; whnf)) ?_
  refine l_gy (wantY rfl rfl rfl) rfl rfl (x_move (by conv => lhs; whnf)) ?_
  refine l_gst (wantY rfl rfl rfl) rfl (s_callL cal51 (c51 _ (hA.rd (H.fz 0 rfl))) ?_)
  rintro _ w ⟨rfl, e1⟩
  have H := H.ext e1
  refine l_gyD (wantY rfl rfl rfl) rfl rfl (x_eql rfl rfl) (fun h9 => ?_) (fun h9 => ?_)
  ·
    exact absurd (show ((A.rows.length : Nat) : Int) = 0 from h9) (by omega)
  ·
    refine l_rd rfl rfl (x_pick0 rfl (by conv => lhs; whnf)) ?_
    refine WL.nil ?_
    refine WC.cond0 rfl ?_
    refine WC.skip ?_
    refine WC.seq ?_
    refine WC.region ?_
    refine l_rd rfl rfl (x_move (by conv => lhs; whnf)) ?_
    refine l_st rfl (s_makeMap H (fun m12 w H => ?_))
    have H := Hd.weak H (Mp.made TSp)
    refine l_st rfl (s_makeMap H (fun m13 w H => ?_))
    have H := Hd.weak H (Mp.made TS)
    refine l_rd rfl rfl (x_buildL (pl := [(0, 1), (1, 1), (2, 1), (3, 1), (4, 1)]) (cells := foC a m12 m13 (-1) (-1)) Tryz.underlying143 ty143 (by kernel_rfl) rfl) ?_
    refine l_st rfl (s_box (by conv => lhs; whnf) H fun b15 w H => ?_)
    refine l_rd rfl rfl (x_assign (by conv => lhs; whnf)) ?_
    refine l_rd rfl rfl (x_assign ev_c) ?_
    refine WL.nil ?_
    refine WC.ret ?_
    refine atRet ?_
    exact RetM.two rfl (by (conv => lhs; whnf); try rfl) (by (conv => lhs; whnf); try rfl) (⟨_, _, _, rfl, by have H := IM.nil (κ := Spot) (T2 := TS) (f := I) (IM.nil (κ := ByteArray) (T2 := TLk) (f := I) H); exact Hd.arrT [_, _, _, _, _, _] [2, 4, 0, 3, 1, 5] (by decide) rfl H⟩)
/-! ### what a forest holds: the law -/
structure Rs where
  v : ByteArray
  s : Nat
  r : ByteArray
  t : Int
abbrev rsC (x : Rs) : List Value := [S x.v, nI x.s, S x.r, I x.t]
theorem rsC_len (x : Rs) : (rsC x).length = 4 := rfl
/-- a node's time is raised -/
def Up (n : Nn) (x : Rs) (n' : Nn) : Prop := (∀ r v s, nodT n' r v s = if r = x.r ∧ v = x.v ∧ s = x.s then some x.t else nodT n r v s) ∧ (okN2 n → okN2 n')
theorem Up.new {n : Nn} {x : Rs} {m : Nat} (h : glook (x.v, x.s) n = none) : Up n x (gset (x.v, x.s) (m, [(x.r, x.t)]) n) := by
  refine ⟨fun r v s => ?_, fun k => k.set (by simp)⟩
  show look2 _ _ _ = _
  rw [look2_gset]
  by_cases e : (v, s) = (x.v, x.s)
  · rw [if_pos e]
    simp only [Prod.mk.injEq] at e
    obtain ⟨e1, e2⟩ := e
    subst e1 e2
    by_cases hr : r = x.r
    · subst hr; simp [glook]
    · simp [glook, hr, nodT, look2, h]
  · rw [if_neg e, if_neg]
    rintro ⟨_, e1, e2⟩
    exact e (by rw [e1, e2])
theorem Up.old {n : Nn} {x : Rs} {m : Nat} {row : List (ByteArray × Int)} (h : glook (x.v, x.s) n = some (m, row)) : Up n x (gset (x.v, x.s) (m, gset x.r x.t row) n) := by
  refine ⟨fun r v s => ?_, fun k => k.set (gset_nodup (k.row h))⟩
  show look2 _ _ _ = _
  rw [look2_gset]
  by_cases e : (v, s) = (x.v, x.s)
  · rw [if_pos e]
    simp only [Prod.mk.injEq] at e
    obtain ⟨e1, e2⟩ := e
    subst e1 e2
    rw [glook_gset]
    by_cases hr : r = x.r
    · subst hr; simp
    · simp [hr, nodT, look2, h]
  · rw [if_neg e, if_neg]
    rintro ⟨_, e1, e2⟩
    exact e (by rw [e1, e2])
theorem gset_pt2 {κ κ' α : Type} [DecidableEq κ] {l : N2 κ κ' α} {k : κ} {m : Nat} {row row' : List (κ' × α)} : (gset k (m, row) l).map (gval pI) = (gset k (m, row') l).map (gval pI) := by rw [← aset_g, ← aset_g]
/-- a way: its root, where it ends, in which state, its least time -/
inductive Dv (A : Gr) (l : Ln) : ByteArray → ByteArray → Nat → Int → Prop
  | base {r to lab : ByteArray} {u : Int} {s : Nat} (h : lnkT l r to lab = some u) (k : stepA A 0 lab = some s) : Dv A l r to s u
  | step {r v to lab : ByteArray} {s s' : Nat} {t u : Int} (d : Dv A l r v s t) (h : lnkT l v to lab = some u) (k : stepA A s lab = some s') : Dv A l r to s' (min t u)
/-- all links -/
def edgs (l : Ln) : List (ByteArray × ByteArray × ByteArray × Int) := l.flatMap fun p => p.2.2.map fun q => (p.1, q.1.1, q.1.2, q.2)
theorem lnk_mem {l : Ln} {v to lab : ByteArray} {u : Int} (h : lnkT l v to lab = some u) : (v, to, lab, u) ∈ edgs l := by
  unfold lnkT look2 at h
  cases hg : glook v l with
  | none => rw [hg] at h; cases h
  | some q =>
    rw [hg] at h
    simp only [Option.bind_some] at h
    exact List.mem_flatMap.2 ⟨(v, q), glook_mem hg, List.mem_map.2 ⟨((to, lab), u), glook_mem h, rfl⟩⟩
abbrev Hq := ByteArray × ByteArray × ByteArray × Int
def srcs (E : List Hq) : List ByteArray := E.map (·.1)
def dsts (E : List Hq) : List ByteArray := E.map (·.2.1)
def tims (E : List Hq) : List Int := E.map (·.2.2.2)
/-- targets are states -/
def okTg (A : Gr) : Prop := ∀ s lab s', stepA A s lab = some s' → s' < A.rows.length
/-- made of what was put, later than the cut -/
def FinP (A : Gr) (E : List Hq) (c : Int) (r v : ByteArray) (s : Nat) (t : Int) : Prop := r ∈ srcs E ∧ v ∈ dsts E ∧ s < A.rows.length ∧ t ∈ tims E ∧ c < t
/-- links were put, later than the cut -/
def Lv (E : List Hq) (c : Int) (l : Ln) : Prop := ∀ v to lab u, lnkT l v to lab = some u → (v, to, lab, u) ∈ E ∧ c < u
theorem FinP.base {A : Gr} {E : List Hq} {c : Int} {r to lab : ByteArray} {u : Int} {s : Nat} (hA : okTg A) (h : (r, to, lab, u) ∈ E) (hc : c < u) (k : stepA A 0 lab = some s) : FinP A E c r to s u :=
  ⟨List.mem_map_of_mem (f := (·.1)) h, List.mem_map_of_mem (f := (·.2.1)) h, hA _ _ _ k, List.mem_map_of_mem (f := (·.2.2.2)) h, hc⟩
theorem FinP.step {A : Gr} {E : List Hq} {c : Int} {r v to lab : ByteArray} {t u : Int} {s s' : Nat} (hA : okTg A) (d : FinP A E c r v s t) (h : (v, to, lab, u) ∈ E) (hc : c < u) (k : stepA A s lab = some s') : FinP A E c r to s' (min t u) := by
  refine ⟨d.1, List.mem_map_of_mem (f := (·.2.1)) h, hA _ _ _ k, ?_, by have := d.2.2.2.2; omega⟩
  rcases Int.le_total t u with e | e
  · rw [Int.min_eq_left e]; exact d.2.2.2.1
  · rw [Int.min_eq_right e]; exact List.mem_map_of_mem (f := (·.2.2.2)) h
theorem FinP.mono {A : Gr} {E E' : List Hq} {c : Int} {r v : ByteArray} {s : Nat} {t : Int} (h : FinP A E c r v s t) (k : ∀ q ∈ E, q ∈ E') : FinP A E' c r v s t := by
  have key : ∀ {β : Type} (f : Hq → β) (x : β), x ∈ E.map f → x ∈ E'.map f := fun f x hx => by
    obtain ⟨q, hq, rfl⟩ := List.mem_map.1 hx
    exact List.mem_map_of_mem (k q hq)
  exact ⟨key _ _ h.1, key _ _ h.2.1, h.2.2.1, key _ _ h.2.2.2.1, h.2.2.2.2⟩
/-- a way that is no worse -/
def Dw (A : Gr) (l : Ln) (r v : ByteArray) (s : Nat) (t : Int) : Prop := ∃ t', t ≤ t' ∧ Dv A l r v s t'
theorem Dw.step {A : Gr} {l : Ln} {r v to lab : ByteArray} {t u : Int} {s s' : Nat} (d : Dw A l r v s t) (h : lnkT l v to lab = some u) (k : stepA A s lab = some s') : Dw A l r to s' (min t u) := by
  obtain ⟨t', h1, h2⟩ := d
  exact ⟨min t' u, by omega, .step h2 h k⟩
theorem Dw.base {A : Gr} {l : Ln} {r to lab : ByteArray} {u : Int} {s : Nat} (h : lnkT l r to lab = some u) (k : stepA A 0 lab = some s) : Dw A l r to s u := ⟨u, Int.le_refl _, .base h k⟩
/-! ### how often may be raised -/
def univ (A : Gr) (l : List Hq) : List (ByteArray × ByteArray × Nat × Int) := (srcs l).flatMap fun r => (dsts l).flatMap fun v => (List.range A.rows.length).flatMap fun s => (tims l).map fun t => (r, v, s, t)
theorem univ_len (A : Gr) (l : List Hq) : (univ A l).length = l.length * (l.length * (A.rows.length * l.length)) := by
  have key : ∀ {α β : Type} (xs : List α) (f : α → List β) (k : Nat), (∀ x, (f x).length = k) → (xs.flatMap f).length = xs.length * k := by
    intro α β xs f k h
    induction xs with
    | nil => simp
    | cons x xs ih => rw [List.flatMap_cons, List.length_append, ih, h, List.length_cons, Nat.succ_mul]; omega
  unfold univ
  rw [key _ _ (l.length * (A.rows.length * l.length)) fun r => by
    rw [key _ _ (A.rows.length * l.length) fun v => by
      rw [key _ _ l.length fun s => by simp [tims]]; simp]; simp [dsts]]
  simp [srcs]
theorem univ_mem {A : Gr} {l : List Hq} {r v : ByteArray} {s : Nat} {t : Int} (h : r ∈ srcs l ∧ v ∈ dsts l ∧ s < A.rows.length ∧ t ∈ tims l) : (r, v, s, t) ∈ univ A l :=
  List.mem_flatMap.2 ⟨r, h.1, List.mem_flatMap.2 ⟨v, h.2.1, List.mem_flatMap.2 ⟨s, List.mem_range.2 h.2.2.1, List.mem_map.2 ⟨t, h.2.2.2, rfl⟩⟩⟩⟩
/-- still to be raised -/
def todo (n : Nn) (x : ByteArray × ByteArray × Nat × Int) : Bool := match nodT n x.1 x.2.1 x.2.2.1 with
  | some t => decide (t < x.2.2.2)
  | none => true
def pot (A : Gr) (l : List Hq) (n : Nn) : Nat := ((univ A l).filter (todo n)).length
theorem filter_lt {α : Type} {p q : α → Bool} {l : List α} {x : α} (h : ∀ y, q y = true → p y = true) (hx : x ∈ l) (hp : p x = true) (hq : q x = false) : (l.filter q).length < (l.filter p).length := by
  have hle : ∀ m : List α, (m.filter q).length ≤ (m.filter p).length := by
    intro m
    induction m with
    | nil => exact Nat.le_refl _
    | cons y m ih =>
      simp only [List.filter_cons]
      cases hqy : q y with
      | false => cases hpy : p y <;> simp <;> omega
      | true => rw [h y hqy]; simp; exact ih
  induction l with
  | nil => cases hx
  | cons y m ih =>
    simp only [List.filter_cons]
    rcases List.mem_cons.1 hx with rfl | hm
    · rw [hp, hq]
      have := hle m
      simp; omega
    · have := ih hm
      cases hqy : q y with
      | false => cases hpy : p y <;> simp <;> omega
      | true => rw [h y hqy]; simp; exact this
theorem pot_up {A : Gr} {l : List Hq} {c : Int} {n n' : Nn} {x : Rs} (hu : Up n x n') (hlt : ∀ old, nodT n x.r x.v x.s = some old → old < x.t) (hf : FinP A l c x.r x.v x.s x.t) : pot A l n' < pot A l n := by
  refine filter_lt (x := (x.r, x.v, x.s, x.t)) (fun y hy => ?_) (univ_mem ⟨hf.1, hf.2.1, hf.2.2.1, hf.2.2.2.1⟩) ?_ ?_
  · obtain ⟨r, v, s, t⟩ := y
    unfold todo at hy ⊢
    simp only [] at hy ⊢
    rw [hu.1] at hy
    by_cases e : r = x.r ∧ v = x.v ∧ s = x.s
    · rw [if_pos e] at hy
      obtain ⟨rfl, rfl, rfl⟩ := e
      have hy : x.t < t := of_decide_eq_true hy
      cases hn : nodT n x.r x.v x.s with
      | none => rfl
      | some old => have := hlt old hn; exact decide_eq_true (by omega)
    · rw [if_neg e] at hy; exact hy
  · unfold todo
    simp only []
    cases hn : nodT n x.r x.v x.s with
    | none => rfl
    | some old => exact decide_eq_true (hlt old hn)
  · unfold todo
    simp only []
    rw [hu.1, if_pos ⟨rfl, rfl, rfl⟩]
    exact decide_eq_false (by omega)
/-! ### what an edge raises -/
/-- a node behind a way's node, in the nodes or waiting -/
def At (n : Nn) (W : List Rs) (r to : ByteArray) (s : Nat) (t : Int) : Prop := (∃ t', nodT n r to s = some t' ∧ t ≤ t') ∨ ∃ x ∈ W, x.r = r ∧ x.v = to ∧ x.s = s ∧ t ≤ x.t
structure GI (A : Gr) (E : List Hq) (c : Int) (l : Ln) (n0 n : Nn) (W : List Rs) (met : List (Pq × Int)) : Prop where
  ok : okN2 n
  mono : ∀ r v s t, nodT n0 r v s = some t → ∃ t', nodT n r v s = some t' ∧ t ≤ t'
  fin : ∀ r v s t, nodT n r v s = some t → FinP A E c r v s t
  wfin : ∀ x ∈ W, FinP A E c x.r x.v x.s x.t
  snd : ∀ r v s t, nodT n r v s = some t → Dw A l r v s t
  wnd : ∀ x ∈ W, Dw A l x.r x.v x.s x.t
  cl0 : ∀ r to lab u s, lnkT l r to lab = some u → stepA A 0 lab = some s → At n W r to s u
  cl : ∀ r v s t to lab u s', nodT n r v s = some t → lnkT l v to lab = some u → stepA A s lab = some s' → At n W r to s' (min t u)
  nd : (met.map (·.1)).Nodup
  met : ∀ p, (glook p met).isSome = true ↔ ∃ s, takesA A s = true ∧ nodT n p.1 p.2 s ≠ nodT n0 p.1 p.2 s
theorem GI.skip {A : Gr} {E : List Hq} {c : Int} {l : Ln} {n0 n : Nn} {W : List Rs} {met : List (Pq × Int)} {x : Rs} {old : Int} (h : GI A E c l n0 n (x :: W) met) (ho : nodT n x.r x.v x.s = some old) (hle : x.t ≤ old) : GI A E c l n0 n W met := by
  have key : ∀ r to s t, At n (x :: W) r to s t → At n W r to s t := by
    rintro r to s t (h1 | ⟨y, hy, e1, e2, e3, e4⟩)
    · exact .inl h1
    · rcases List.mem_cons.1 hy with rfl | hy
      · subst e1 e2 e3
        exact .inl ⟨old, ho, by omega⟩
      · exact .inr ⟨y, hy, e1, e2, e3, e4⟩
  exact ⟨h.ok, h.mono, h.fin, fun y hy => h.wfin y (List.mem_cons_of_mem _ hy), h.snd, fun y hy => h.wnd y (List.mem_cons_of_mem _ hy), fun r to lab u s a b => key _ _ _ _ (h.cl0 r to lab u s a b), fun r v s t to lab u s' a b c => key _ _ _ _ (h.cl r v s t to lab u s' a b c), h.nd, h.met⟩
/-- raised: what waits then holds all that is behind -/
theorem GI.up {A : Gr} {E : List Hq} {c : Int} {l : Ln} {n0 n n' : Nn} {W W' : List Rs} {met met' : List (Pq × Int)} {x : Rs} (hA : okTg A) (hL : Lv E c l) (h : GI A E c l n0 n (x :: W) met) (hu : Up n x n') (hlt : ∀ old, nodT n x.r x.v x.s = some old → old < x.t)
    (hW : ∀ y ∈ W, y ∈ W') (hs : ∀ y ∈ W', y ∈ W ∨ ∃ to lab u s', lnkT l x.v to lab = some u ∧ stepA A x.s lab = some s' ∧ y = ⟨to, s', x.r, min x.t u⟩)
    (hn : ∀ to lab u s', lnkT l x.v to lab = some u → stepA A x.s lab = some s' → (⟨to, s', x.r, min x.t u⟩ : Rs) ∈ W')
    (hm : met' = if takesA A x.s = true then gset (x.r, x.v) 1 met else met) : GI A E c l n0 n' W' met' := by
  have hx := h.wnd x List.mem_cons_self
  have hf := h.wfin x List.mem_cons_self
  have up : ∀ r v s t, nodT n r v s = some t → ∃ t', nodT n' r v s = some t' ∧ t ≤ t' := fun r v s t ht => by
    rw [hu.1]
    split
    · rename_i e
      obtain ⟨rfl, rfl, rfl⟩ := e
      exact ⟨x.t, rfl, by have := hlt t ht; omega⟩
    · exact ⟨t, ht, Int.le_refl _⟩
  have key : ∀ r to s t, At n (x :: W) r to s t → At n' W' r to s t := by
    rintro r to s t (⟨t', h1, h2⟩ | ⟨y, hy, e1, e2, e3, e4⟩)
    · obtain ⟨t2, h3, h4⟩ := up _ _ _ _ h1
      exact .inl ⟨t2, h3, by omega⟩
    · rcases List.mem_cons.1 hy with rfl | hy
      · subst e1 e2 e3
        exact .inl ⟨y.t, by rw [hu.1, if_pos ⟨rfl, rfl, rfl⟩], e4⟩
      · exact .inr ⟨y, hW y hy, e1, e2, e3, e4⟩
  refine ⟨hu.2 h.ok, fun r v s t ht => ?_, fun r v s t ht => ?_, fun y hy => ?_, fun r v s t ht => ?_, fun y hy => ?_, fun r to lab u s a b => key _ _ _ _ (h.cl0 r to lab u s a b), fun r v s t to lab u s' a b c => ?_, ?_, fun p => ?_⟩
  · obtain ⟨t1, h1, h2⟩ := h.mono r v s t ht
    obtain ⟨t2, h3, h4⟩ := up _ _ _ _ h1
    exact ⟨t2, h3, by omega⟩
  · rw [hu.1] at ht
    split at ht
    · rename_i e
      obtain ⟨rfl, rfl, rfl⟩ := e
      cases ht; exact hf
    · exact h.fin r v s t ht
  · rcases hs y hy with hy | ⟨to, lab, u, s', a, b, rfl⟩
    · exact h.wfin y (List.mem_cons_of_mem _ hy)
    · exact hf.step hA (hL _ _ _ _ a).1 (hL _ _ _ _ a).2 b
  · rw [hu.1] at ht
    split at ht
    · rename_i e
      obtain ⟨rfl, rfl, rfl⟩ := e
      cases ht; exact hx
    · exact h.snd r v s t ht
  · rcases hs y hy with hy | ⟨to, lab, u, s', a, b, rfl⟩
    · exact h.wnd y (List.mem_cons_of_mem _ hy)
    · exact hx.step a b
  · rw [hu.1] at a
    split at a
    · rename_i e
      obtain ⟨rfl, rfl, rfl⟩ := e
      cases a
      exact .inr ⟨_, hn to lab u s' b c, rfl, rfl, rfl, Int.le_refl _⟩
    · exact key _ _ _ _ (h.cl r v s t to lab u s' a b c)
  · rw [hm]; split
    · exact gset_nodup h.nd
    · exact h.nd
  · have hd : ∀ r v s, nodT n' r v s ≠ nodT n0 r v s ↔ (r = x.r ∧ v = x.v ∧ s = x.s) ∨ nodT n r v s ≠ nodT n0 r v s := fun r v s => by
      rw [hu.1]
      by_cases e : r = x.r ∧ v = x.v ∧ s = x.s
      · rw [if_pos e]
        obtain ⟨rfl, rfl, rfl⟩ := e
        refine ⟨fun _ => .inl ⟨rfl, rfl, rfl⟩, fun _ he => ?_⟩
        obtain ⟨t1, h1, h2⟩ := h.mono _ _ _ _ he.symm
        have := hlt t1 h1
        omega
      · rw [if_neg e]
        exact ⟨fun h => .inr h, fun h => h.resolve_left e⟩
    have h1 := h.met p
    rw [hm]
    split
    · rename_i ht
      rw [glook_gset]
      by_cases e : p = (x.r, x.v)
      · rw [if_pos e]
        subst e
        refine ⟨fun _ => ⟨x.s, ht, (hd _ _ _).2 (.inl ⟨rfl, rfl, rfl⟩)⟩, fun _ => rfl⟩
      · rw [if_neg e, h1]
        refine ⟨fun ⟨s, a, b⟩ => ⟨s, a, (hd _ _ _).2 (.inr b)⟩, fun ⟨s, a, b⟩ => ⟨s, a, ?_⟩⟩
        rcases (hd _ _ _).1 b with ⟨e1, e2, _⟩ | b
        · exact absurd (Prod.ext e1 e2) e
        · exact b
    · rename_i ht
      rw [h1]
      refine ⟨fun ⟨s, a, b⟩ => ⟨s, a, (hd _ _ _).2 (.inr b)⟩, fun ⟨s, a, b⟩ => ⟨s, a, ?_⟩⟩
      rcases (hd _ _ _).1 b with ⟨_, _, e3⟩ | b
      · subst e3; exact absurd a ht
      · exact b
/-- what an edge raises by itself -/
def SeedP (A : Gr) (n : Nn) (e : Ed) (x : Rs) : Prop := x.v = e.dst ∧ ((stepA A 0 e.lab = some x.s ∧ x.r = e.src ∧ x.t = e.time) ∨ ∃ st τ, st < A.rows.length ∧ nodT n x.r e.src st = some τ ∧ stepA A st e.lab = some x.s ∧ x.t = min τ e.time)
/-- nodes that all links but one have been gone over -/
structure Pre (A : Gr) (E : List Hq) (c : Int) (l : Ln) (n : Nn) (e : Ed) : Prop where
  ok : okN2 n
  lnk : Lv E c l
  fin : ∀ r v s t, nodT n r v s = some t → FinP A E c r v s t
  snd : ∀ r v s t, nodT n r v s = some t → Dw A l r v s t
  cl0 : ∀ r to lab u s, lnkT l r to lab = some u → stepA A 0 lab = some s → (r = e.src ∧ to = e.dst ∧ lab = e.lab ∧ u = e.time) ∨ ∃ t', nodT n r to s = some t' ∧ u ≤ t'
  cl : ∀ r v s t to lab u s', nodT n r v s = some t → lnkT l v to lab = some u → stepA A s lab = some s' → (v = e.src ∧ to = e.dst ∧ lab = e.lab ∧ u = e.time) ∨ ∃ t', nodT n r to s' = some t' ∧ min t u ≤ t'
  here : lnkT l e.src e.dst e.lab = some e.time
theorem GI.start {A : Gr} {E : List Hq} {c : Int} {l : Ln} {n : Nn} {e : Ed} {W : List Rs} (h : Pre A E c l n e) (hA : okTg A) (hs : ∀ x ∈ W, SeedP A n e x) (hall : ∀ x, SeedP A n e x → x ∈ W) : GI A E c l n n W [] := by
  have hh := h.lnk _ _ _ _ h.here
  refine ⟨h.ok, fun r v s t ht => ⟨t, ht, Int.le_refl _⟩, h.fin, fun x hx => ?_, h.snd, fun x hx => ?_, fun r to lab u s a b => ?_, fun r v s t to lab u s' a b c => ?_, List.nodup_nil, fun p => ⟨fun h => (by cases h), fun ⟨s, _, h⟩ => absurd rfl h⟩⟩
  · obtain ⟨e1, ⟨e2, e3, e4⟩ | ⟨st, τ, h1, h2, h3, h4⟩⟩ := hs x hx
    · rw [e1, e3, e4]; exact .base hA hh.1 hh.2 e2
    · rw [e1, h4]; exact (h.fin _ _ _ _ h2).step hA hh.1 hh.2 h3
  · obtain ⟨e1, ⟨e2, e3, e4⟩ | ⟨st, τ, h1, h2, h3, h4⟩⟩ := hs x hx
    · rw [e1, e3, e4]; exact .base h.here e2
    · rw [e1, h4]; exact (h.snd _ _ _ _ h2).step h.here h3
  · rcases h.cl0 r to lab u s a b with ⟨rfl, rfl, rfl, rfl⟩ | h1
    · exact .inr ⟨⟨e.dst, s, e.src, e.time⟩, hall _ ⟨rfl, .inl ⟨b, rfl, rfl⟩⟩, rfl, rfl, rfl, Int.le_refl _⟩
    · exact .inl h1
  · rcases h.cl r v s t to lab u s' a b c with ⟨rfl, rfl, rfl, rfl⟩ | h1
    · exact .inr ⟨⟨e.dst, s', r, min t e.time⟩, hall _ ⟨rfl, .inr ⟨s, t, (h.fin _ _ _ _ a).2.2.1, a, c, rfl⟩⟩, rfl, rfl, rfl, Int.le_refl _⟩
    · exact .inl h1
theorem FoL.rdc {s : Sy} {w : World} {L : List Hp} {f a mn ml : Nat} {n : Nn} {l : Ln} {cut last : Int} {g : KE.Sub} {A : Gr} (hA : AuG g a A) (H : Hd s w (pt f (.cells (foC a mn ml cut last).toArray 143 (0, 0)) :: Mp TSp mn (n.map (gval pI)) :: IM TS I n :: Mp TS ml (l.map (gval pI)) :: IM TLk I l :: fz g :: L)) : FoR w f A n l cut last := FoL.rd hA H
theorem gset_self {κ α : Type} [DecidableEq κ] {k : κ} {v : α} {l : List (κ × α)} (h : glook k l = some v) : gset k v l = l := by
  induction l with
  | nil => cases h
  | cons p l ih =>
    simp only [glook] at h
    simp only [gset]
    split at h
    · rename_i e
      obtain ⟨p1, p2⟩ := p
      cases h; subst e; rw [if_pos rfl]
    · rename_i e
      rw [if_neg e, ih h]
def rowO (o : Option (Nat × List (ByteArray × Int))) : List (ByteArray × Int) := match o with
  | some q => q.2
  | none => []
theorem c44 {s : Sy} {L : List Hp} {o : Option (Nat × List (ByteArray × Int))} (w : World) (hR : ∀ m row, o = some (m, row) → MpR TS m (row.map (gval I)) w) (H : Hd s w L) : CC Tryz.prog 44 [optM o].toArray w (fun r w' => ∃ m' : Option Nat, r = .map m' ∧ Hd s w' (Mpo TS m' ((rowO o).map (gval I)) :: L)) := by
  refine CC.of_calls ?_
  cases o with
  | none => exact (AnyW.maps_Clone_nil Tryz.cloneS w).mono fun e w' ⟨he, hw⟩ => ⟨_, he, none, rfl, by subst hw; exact Hd.pure rfl H⟩
  | some q =>
    obtain ⟨m, row⟩ := q
    obtain ⟨es, cl, h1, h2, h3⟩ := hR m row rfl
    refine (AnyW.maps_Clone Tryz.cloneS m es cl w h1).mono fun e w' ⟨he, hw⟩ => ⟨_, he, some w.heap.size, rfl, ?_⟩
    subst hw
    exact Hd.weak (H.alloc _) fun h hp => ⟨(es, cl), ⟨h2, h3⟩, hp⟩
theorem c149 {s : Sy} [NoEx s] {L : List Hp} {f a mn ml : Nat} {n : Nn} {cut last : Int} {x : Rs} (w : World) (H : Hd s w (pt f (.cells (foC a mn ml cut last).toArray 143 (0, 0)) :: Mp TSp mn (n.map (gval pI)) :: IM TS I n :: L)) : CC Tryz.prog 149 [.pointer (some ⟨f, 0, none⟩), .agg (rsC x).toArray].toArray w (fun r w' => (r = .bool false ∧ (∃ old, nodT n x.r x.v x.s = some old ∧ x.t ≤ old) ∧ Hd s w' (pt f (.cells (foC a mn ml cut last).toArray 143 (0, 0)) :: Mp TSp mn (n.map (gval pI)) :: IM TS I n :: L)) ∨ (r = .bool true ∧ (∀ old, nodT n x.r x.v x.s = some old → old < x.t) ∧ ∃ n' : Nn, Up n x n' ∧ Hd s w' (pt f (.cells (foC a mn ml cut last).toArray 143 (0, 0)) :: Mp TSp mn (n'.map (gval pI)) :: IM TS I n' :: L))) := by
  refine CC.of (N := 44) Tryz.func149 rfl rfl rfl ?_
  refine WC.seq ?_
  refine WC.region ?_
  refine l_st rfl (s_box (by conv => lhs; whnf) H fun b3 w H => ?_)
  refine l_rd rfl rfl (x_assign ev_c) ?_
  refine WL.nil ?_
  refine WC.seq ?_
  obtain ⟨og, hog⟩ : ∃ og, og = glook (x.v, x.s) n := ⟨_, rfl⟩
  rcases og with _ | ⟨m, row⟩
  ·
    refine WC.draw mixed [] [[], [0], [0, 1], [0, 1, 2], [], [4], [0, 1, 2, 3, 4, 5], [0, 1, 2, 3, 4, 5, 6]] [0, 1, 2, 3, 4, 5, 6, 7] (by kernel_rfl) ?_
    have H := H.drew
    refine k_rd rfl rfl (RS.of rfl rfl (x_move (by conv => lhs; whnf))) ?_
    refine k_rd rfl rfl (RS.of rfl rfl (x_nilCheck rfl)) ?_
    refine k_rd rfl rfl (RS.of rfl rfl (x_fieldAddr (k := 1) Tryz.underlying143 rfl rfl ty140 (by decide) rfl)) ?_
    refine k_rd rfl rfl (RS.of rfl rfl (x_load Tryz.underlying140 rfl rfl (H.cellL 1 rfl rfl))) ?_
    refine k_rd rfl rfl (RS.of rfl rfl (x_fieldAddr (k := 0) Tryz.underlying253 rfl rfl ty151 (by decide) rfl)) ?_
    refine k_rd rfl rfl (RS.of rfl rfl (x_loadF (vs := [_, _]) Tryz.underlying151 rfl ty151 rfl rfl (H.cellsL 0 rfl rfl))) ?_
    refine k_rd rfl rfl (RS.of rfl rfl (x_lookM TSp Tryz.underlying140 ty77 rfl rfl H 2 rfl (show _ = optM none from lk_pt.trans (by rw [← hog])))) ?_
    refine k_rd rfl rfl (RS.of rfl rfl (x_assign (by conv => lhs; whnf))) ?_
    show _
    refine WC.seq ?_
    refine WC.seq ?_
    refine WC.region ?_
    refine l_rd rfl rfl (x_move (by conv => lhs; whnf)) ?_
    refine l_rdD rfl rfl (x_eqlM (o := (none : Option (Nat × List (ByteArray × Int)))) Tryz.underlying77 rfl) (fun h16 => ?_) (fun h16 => ?_)
    ·
      refine WL.nil ?_
      refine WC.cond1 rfl ?_
      refine WC.seq ?_
      refine WC.region ?_
      refine l_st rfl (s_makeMap H (fun m17 w H => ?_))
      have H := Hd.weak H (Mp.made TS)
      refine l_rd rfl rfl (x_assign (by conv => lhs; whnf)) ?_
      refine WL.nil ?_
      refine WC.draw mixed [7] [[], [0], [0, 1], [0, 1, 2], [], [4], [], [0, 1, 2, 3, 4, 5, 6]] [0, 1, 2, 3, 4, 5, 6, 7] (by kernel_rfl) ?_
      have H := H.drew
      refine k_rd rfl rfl (RS.of rfl rfl (x_move (by conv => lhs; whnf))) ?_
      refine k_rd rfl rfl (RS.of rfl rfl (x_nilCheck rfl)) ?_
      refine k_rd rfl rfl (RS.of rfl rfl (x_fieldAddr (k := 1) Tryz.underlying143 rfl rfl ty140 (by decide) rfl)) ?_
      refine k_rd rfl rfl (RS.of rfl rfl (x_load Tryz.underlying140 rfl rfl (H.cellL 2 rfl rfl))) ?_
      refine k_rd rfl rfl (RS.of rfl rfl (x_fieldAddr (k := 0) Tryz.underlying253 rfl rfl ty151 (by decide) rfl)) ?_
      refine k_rd rfl rfl (RS.of rfl rfl (x_loadF (vs := [_, _]) Tryz.underlying151 rfl ty151 rfl rfl (H.cellsL 1 rfl rfl))) ?_
      refine k_rd rfl rfl (RS.of rfl rfl (x_move (by conv => lhs; whnf))) ?_
      refine k_no rfl rfl rfl (s_mapUpdate (k := (x.v, x.s)) TSp Tryz.underlying140 3 rfl rfl rfl (by conv => lhs; whnf) H (fun w H => ?_))
      rw [show (Value.map (some m17)) = pI ((m17, []) : Nat × List (ByteArray × Int)) from rfl, aset_g pI] at H
      refine ⟨⟨trivial, ⟨trivial, ⟨trivial, ⟨trivial, ⟨trivial, ⟨trivial, ⟨trivial, trivial⟩⟩⟩⟩⟩⟩⟩, ?_⟩
      show _
      refine WC.seq ?_
      refine WC.seq ?_
      refine WC.region ?_
      refine l_rd rfl rfl (x_move (by conv => lhs; whnf)) ?_
      refine l_rd rfl rfl (x_fieldAddr (k := 2) Tryz.underlying253 rfl rfl ty9 (by decide) rfl) ?_
      refine l_rd rfl rfl (x_load Tryz.underlying9 rfl rfl (H.cellL 1 rfl rfl)) ?_
      refine l_rd rfl rfl (x_lookM TS Tryz.underlying77 ty3 rfl rfl H 0 rfl (show _ = Value.tuple #[I 0, .bool false] from rfl)) ?_
      refine l_rd rfl rfl (x_move (by conv => lhs; whnf)) ?_
      refine l_rd rfl rfl (x_extract rfl rfl) ?_
      refine l_rd rfl rfl (x_extract rfl rfl) ?_
      refine l_rd rfl rfl (x_assign (by conv => lhs; whnf)) ?_
      refine l_rd rfl rfl (x_assign (by conv => lhs; whnf)) ?_
      refine WL.nil ?_
      refine WC.seq ?_
      refine WC.region ?_
      refine l_rd rfl rfl (x_move (by conv => lhs; whnf)) ?_
      refine l_rd rfl rfl (x_move (by conv => lhs; whnf)) ?_
      refine l_gn (wantN rfl rfl rfl) rfl ?_
      refine l_gn (wantN rfl rfl rfl) rfl ?_
      refine l_gn (wantN rfl rfl rfl) rfl ?_
      refine l_gn (wantN rfl rfl rfl) rfl ?_
      refine l_rd rfl rfl (x_pick0 rfl ev_c) ?_
      refine WL.nil ?_
      refine WC.cond0 rfl ?_
      refine WC.skip ?_
      refine WC.seq ?_
      refine WC.region ?_
      refine l_rd rfl rfl (x_move (by conv => lhs; whnf)) ?_
      refine l_rd rfl rfl (x_fieldAddr (k := 2) Tryz.underlying253 rfl rfl ty9 (by decide) rfl) ?_
      refine l_rd rfl rfl (x_load Tryz.underlying9 rfl rfl (H.cellL 1 rfl rfl)) ?_
      refine l_rd rfl rfl (x_fieldAddr (k := 3) Tryz.underlying253 rfl rfl ty3 (by decide) rfl) ?_
      refine l_rd rfl rfl (x_load Tryz.underlying3 rfl rfl (H.cellL 1 rfl rfl)) ?_
      refine l_no (s_mapUpdate TS Tryz.underlying77 0 rfl rfl rfl (by conv => lhs; whnf) H (fun w H => ?_))
      rw [show aset x.r (Value.int .i64 x.t) [] = [(x.r, x.t)].map (gval I) from rfl] at H
      refine WL.nil ?_
      refine WC.seq ?_
      refine WC.region ?_
      refine l_rd rfl rfl (x_assign ev_c) ?_
      refine WL.nil ?_
      refine WC.ret ?_
      refine atRet ?_
      exact RetM.one rfl rfl (.inr ⟨rfl, fun old ho => (by unfold nodT look2 at ho; rw [← hog] at ho; cases ho), _, Up.new (m := m17) hog.symm, by
          have H := IM.add (k := (x.v, x.s)) hog.symm (Hd.arrT [_, _, _, _, _] [0, 4, 2, 3] (by decide) rfl H)
          rw [gset_pt2 (row' := [])]
          exact Hd.arrT [_, _, _] [1, 2, 0] (by decide) rfl H⟩)
    ·
      exact absurd rfl h16
  ·
    refine WC.draw mixed [] [[], [0], [0, 1], [0, 1, 2], [], [4], [0, 1, 2, 3, 4, 5], [0, 1, 2, 3, 4, 5, 6]] [0, 1, 2, 3, 4, 5, 6, 7] (by kernel_rfl) ?_
    have H := H.drew
    refine k_rd rfl rfl (RS.of rfl rfl (x_move (by conv => lhs; whnf))) ?_
    refine k_rd rfl rfl (RS.of rfl rfl (x_nilCheck rfl)) ?_
    refine k_rd rfl rfl (RS.of rfl rfl (x_fieldAddr (k := 1) Tryz.underlying143 rfl rfl ty140 (by decide) rfl)) ?_
    refine k_rd rfl rfl (RS.of rfl rfl (x_load Tryz.underlying140 rfl rfl (H.cellL 1 rfl rfl))) ?_
    refine k_rd rfl rfl (RS.of rfl rfl (x_fieldAddr (k := 0) Tryz.underlying253 rfl rfl ty151 (by decide) rfl)) ?_
    refine k_rd rfl rfl (RS.of rfl rfl (x_loadF (vs := [_, _]) Tryz.underlying151 rfl ty151 rfl rfl (H.cellsL 0 rfl rfl))) ?_
    refine k_rd rfl rfl (RS.of rfl rfl (x_lookM TSp Tryz.underlying140 ty77 rfl rfl H 2 rfl (show _ = optM (some (m, row)) from lk_pt.trans (by rw [← hog])))) ?_
    refine k_rd rfl rfl (RS.of rfl rfl (x_assign (by conv => lhs; whnf))) ?_
    show _
    refine WC.seq ?_
    refine WC.seq ?_
    refine WC.region ?_
    refine l_rd rfl rfl (x_move (by conv => lhs; whnf)) ?_
    refine l_rdD rfl rfl (x_eqlM (o := (some (m, row))) Tryz.underlying77 rfl) (fun h16 => ?_) (fun h16 => ?_)
    ·
      cases h16
    ·
      refine WL.nil ?_
      refine WC.cond0 rfl ?_
      refine WC.skip ?_
      refine WC.seq ?_
      refine WC.seq ?_
      obtain ⟨rest, H, hcl, -⟩ := IM.focus (k := (x.v, x.s)) (m := m) (row := row) hog.symm (Hd.arrT [_, _, _, _] [3, 0, 1, 2] (by decide) rfl H)
      obtain ⟨oo, hoo⟩ : ∃ oo, oo = glook x.r row := ⟨_, rfl⟩
      rcases oo with _ | old
      ·
        refine WC.region ?_
        refine l_rd rfl rfl (x_move (by conv => lhs; whnf)) ?_
        refine l_rd rfl rfl (x_fieldAddr (k := 2) Tryz.underlying253 rfl rfl ty9 (by decide) rfl) ?_
        refine l_rd rfl rfl (x_load Tryz.underlying9 rfl rfl (H.cellL 2 rfl rfl)) ?_
        refine l_rd rfl rfl (x_lookM TS Tryz.underlying77 ty3 rfl rfl H 0 rfl (show _ = Value.tuple #[I 0, .bool false] by rw [alook_g, ← hoo]; rfl)) ?_
        refine l_rd rfl rfl (x_move (by conv => lhs; whnf)) ?_
        refine l_rd rfl rfl (x_extract rfl rfl) ?_
        refine l_rd rfl rfl (x_extract rfl rfl) ?_
        refine l_rd rfl rfl (x_assign (by conv => lhs; whnf)) ?_
        refine l_rd rfl rfl (x_assign (by conv => lhs; whnf)) ?_
        refine WL.nil ?_
        refine WC.seq ?_
        refine WC.region ?_
        refine l_rd rfl rfl (x_move (by conv => lhs; whnf)) ?_
        refine l_rd rfl rfl (x_move (by conv => lhs; whnf)) ?_
        refine l_gn (wantN rfl rfl rfl) rfl ?_
        refine l_gn (wantN rfl rfl rfl) rfl ?_
        refine l_gn (wantN rfl rfl rfl) rfl ?_
        refine l_gn (wantN rfl rfl rfl) rfl ?_
        refine l_rd rfl rfl (x_pick0 rfl ev_c) ?_
        refine WL.nil ?_
        refine WC.cond0 rfl ?_
        refine WC.skip ?_
        refine WC.seq ?_
        refine WC.region ?_
        refine l_rd rfl rfl (x_move (by conv => lhs; whnf)) ?_
        refine l_rd rfl rfl (x_fieldAddr (k := 2) Tryz.underlying253 rfl rfl ty9 (by decide) rfl) ?_
        refine l_rd rfl rfl (x_load Tryz.underlying9 rfl rfl (H.cellL 2 rfl rfl)) ?_
        refine l_rd rfl rfl (x_fieldAddr (k := 3) Tryz.underlying253 rfl rfl ty3 (by decide) rfl) ?_
        refine l_rd rfl rfl (x_load Tryz.underlying3 rfl rfl (H.cellL 2 rfl rfl)) ?_
        refine l_no (s_mapUpdate TS Tryz.underlying77 0 rfl rfl rfl (by conv => lhs; whnf) H (fun w H => ?_))
        rw [aset_g I] at H
        refine WL.nil ?_
        refine WC.seq ?_
        refine WC.region ?_
        refine l_rd rfl rfl (x_assign ev_c) ?_
        refine WL.nil ?_
        refine WC.ret ?_
        refine atRet ?_
        exact RetM.one rfl rfl (.inr ⟨rfl, fun o9 ho => (by unfold nodT look2 at ho; rw [← hog] at ho; exact absurd (hoo.trans ho) (by simp)), _, Up.old (m := m) (row := row) hog.symm, by
            have H := hcl (gset x.r x.t row) _ _ (Hd.arrT [_, _, _, _, _] [0, 1, 3, 4] (by decide) rfl H)
            rw [gset_pt hog.symm]
            exact Hd.arrT [_, _, _] [1, 2, 0] (by decide) rfl H⟩)
      ·
        refine WC.region ?_
        refine l_rd rfl rfl (x_move (by conv => lhs; whnf)) ?_
        refine l_rd rfl rfl (x_fieldAddr (k := 2) Tryz.underlying253 rfl rfl ty9 (by decide) rfl) ?_
        refine l_rd rfl rfl (x_load Tryz.underlying9 rfl rfl (H.cellL 2 rfl rfl)) ?_
        refine l_rd rfl rfl (x_lookM TS Tryz.underlying77 ty3 rfl rfl H 0 rfl (show _ = Value.tuple #[I old, .bool true] by rw [alook_g, ← hoo]; rfl)) ?_
        refine l_rd rfl rfl (x_move (by conv => lhs; whnf)) ?_
        refine l_rd rfl rfl (x_extract rfl rfl) ?_
        refine l_rd rfl rfl (x_extract rfl rfl) ?_
        refine l_rd rfl rfl (x_assign (by conv => lhs; whnf)) ?_
        refine l_rd rfl rfl (x_assign (by conv => lhs; whnf)) ?_
        refine WL.nil ?_
        refine WC.seq ?_
        refine WC.region ?_
        refine l_rd rfl rfl (x_move (by conv => lhs; whnf)) ?_
        refine l_rd rfl rfl (x_move (by conv => lhs; whnf)) ?_
        refine l_gy (wantY rfl rfl rfl) rfl rfl (x_move (by conv => lhs; whnf)) ?_
        refine l_gy (wantY rfl rfl rfl) rfl rfl (x_fieldAddr (k := 3) Tryz.underlying253 rfl rfl ty3 (by decide) rfl) ?_
        refine l_gy (wantY rfl rfl rfl) rfl rfl (x_load Tryz.underlying3 rfl rfl (H.cellL 2 rfl rfl)) ?_
        refine l_gyD (wantY rfl rfl rfl) rfl rfl (x_geq rfl rfl) (fun h37 => ?_) (fun h37 => ?_)
        ·
          refine l_rd rfl rfl (x_pick1 rfl (by conv => lhs; whnf)) ?_
          refine WL.nil ?_
          refine WC.cond1 rfl ?_
          refine WC.seq ?_
          refine WC.region ?_
          refine l_rd rfl rfl (x_assign ev_c) ?_
          refine WL.nil ?_
          refine WC.ret ?_
          refine atRet ?_
          exact RetM.one rfl rfl (.inl ⟨rfl, ⟨old, by unfold nodT look2; rw [← hog]; exact hoo.symm, by omega⟩, by
              have H := hcl row _ _ (Hd.arrT [_, _, _, _, _] [0, 1, 3, 4] (by decide) rfl H)
              rw [gset_self hog.symm] at H
              exact Hd.arrT [_, _, _] [1, 2, 0] (by decide) rfl H⟩)
        ·
          refine l_rd rfl rfl (x_pick1 rfl (by conv => lhs; whnf)) ?_
          refine WL.nil ?_
          refine WC.cond0 rfl ?_
          refine WC.skip ?_
          refine WC.seq ?_
          refine WC.region ?_
          refine l_rd rfl rfl (x_move (by conv => lhs; whnf)) ?_
          refine l_rd rfl rfl (x_fieldAddr (k := 2) Tryz.underlying253 rfl rfl ty9 (by decide) rfl) ?_
          refine l_rd rfl rfl (x_load Tryz.underlying9 rfl rfl (H.cellL 2 rfl rfl)) ?_
          refine l_rd rfl rfl (x_fieldAddr (k := 3) Tryz.underlying253 rfl rfl ty3 (by decide) rfl) ?_
          refine l_rd rfl rfl (x_load Tryz.underlying3 rfl rfl (H.cellL 2 rfl rfl)) ?_
          refine l_no (s_mapUpdate TS Tryz.underlying77 0 rfl rfl rfl (by conv => lhs; whnf) H (fun w H => ?_))
          rw [aset_g I] at H
          refine WL.nil ?_
          refine WC.seq ?_
          refine WC.region ?_
          refine l_rd rfl rfl (x_assign ev_c) ?_
          refine WL.nil ?_
          refine WC.ret ?_
          refine atRet ?_
          exact RetM.one rfl rfl (.inr ⟨rfl, fun o9 ho => (by unfold nodT look2 at ho; rw [← hog] at ho; have e9 := Option.some.inj (hoo.trans ho); omega), _, Up.old (m := m) (row := row) hog.symm, by
              have H := hcl (gset x.r x.t row) _ _ (Hd.arrT [_, _, _, _, _] [0, 1, 3, 4] (by decide) rfl H)
              rw [gset_pt hog.symm]
              exact Hd.arrT [_, _, _] [1, 2, 0] (by decide) rfl H⟩)
end Go.Proofs.YteibnmkikdbndaaGreatDoor
