/-
  What functions of this seat do: contracts, proved by walks; each with the conditions that it names.
-/
import Derived.Test.YtpoahelomhjnaaaN6
set_option linter.unusedVariables false
set_option linter.unusedSimpArgs false
namespace Go.Proofs.Ytpoahelomhjnaaa
open Go Go.RowKit KE Go.Proofs
theorem cal29 : Cal Try.prog 29 := ⟨_, Try.func29, rfl, by decide⟩
theorem cal32 : Cal Try.prog 32 := ⟨_, Try.func32, rfl, by decide⟩
theorem cal33 : Cal Try.prog 33 := ⟨_, Try.func33, rfl, by decide⟩

def allI (b3 b4 b5 : Nat) (many : Int) (pre : List (ByteArray × Nat)) : Hp := fun h => ∃ mv : Value, True ∧ star (pt b3 (.cells #[I many] 3 (0, 0))) (star (pt b4 (.cells #[.slice none 0 0] 29 (0, 0))) (star (pt b5 (.cells #[mv] 29 (0, 0))) (Sl mv 9 1 pre.length (pre.map fun (p : ByteArray × Nat) => S p.1)))) h
theorem allI_opn {s : Sy} {w : World} {L : List Hp} {b3 b4 b5 : Nat} {many : Int} {pre : List (ByteArray × Nat)} (H : Hd s w (allI b3 b4 b5 many pre :: L)) : ∃ mv, Hd s w (pt b3 (.cells #[I many] 3 (0, 0)) :: pt b4 (.cells #[.slice none 0 0] 29 (0, 0)) :: pt b5 (.cells #[mv] 29 (0, 0)) :: Sl mv 9 1 pre.length (pre.map fun (p : ByteArray × Nat) => S p.1) :: L) := by
  obtain ⟨mv, _, h⟩ := Hd.opn (φ := fun _ => True) (q := fun mv : Value => star (pt b3 (.cells #[I many] 3 (0, 0))) (star (pt b4 (.cells #[.slice none 0 0] 29 (0, 0))) (star (pt b5 (.cells #[mv] 29 (0, 0))) (Sl mv 9 1 pre.length (pre.map fun (p : ByteArray × Nat) => S p.1))))) H (fun x hx => hx)
  exact ⟨mv, Hd.unstarAt [_, _] (Hd.unstarAt [_] h.unstar)⟩
theorem allI_mk {s : Sy} {w : World} {L : List Hp} {b3 b4 b5 : Nat} {many : Int} {pre : List (ByteArray × Nat)} {mv : Value} (H : Hd s w (pt b3 (.cells #[I many] 3 (0, 0)) :: pt b4 (.cells #[.slice none 0 0] 29 (0, 0)) :: pt b5 (.cells #[mv] 29 (0, 0)) :: Sl mv 9 1 pre.length (pre.map fun (p : ByteArray × Nat) => S p.1) :: L)) : Hd s w (allI b3 b4 b5 many pre :: L) :=
  ((Hd.starAt [_] (Hd.starAt [_, _] H)).star).weak fun h hh => ⟨mv, trivial, hh⟩
theorem zip_mapK : ∀ (ts : List ByteArray) (k : Nat), ((ts.zipIdx k).map fun (p : ByteArray × Nat) => S p.1) = ts.map S
  | [], k => rfl
  | t :: ts, k => by simp only [List.zipIdx_cons, List.map_cons, zip_mapK ts (k + 1)]
theorem zip_map (ts : List ByteArray) : (ts.zipIdx.map fun (p : ByteArray × Nat) => S p.1) = ts.map S := zip_mapK ts 0
theorem zip_mid {ts : List ByteArray} {pre rest : List (ByteArray × Nat)} {x : ByteArray × Nat} (h : ts.zipIdx = pre ++ x :: rest) : x.2 = pre.length ∧ pre.length < ts.length := by
  have h1 : ts.zipIdx[pre.length]? = some x := by rw [h]; simp
  have h2 : pre.length < ts.zipIdx.length := (List.getElem?_eq_some_iff.1 h1).1
  simp at h2
  refine ⟨?_, h2⟩
  simp [List.getElem?_zipIdx, h2] at h1
  rw [← h1]
theorem c22 {s : Sy} {L : List Hp} {B : Nat} {many : Int} {ts : List ByteArray} (w : World) (H : Hd s w (BookP B ts :: L)) (h1 : (ts.length : Int) ≤ many) (h2 : ts.length ≤ 100000) : CC Try.prog 22 [.pointer (some ⟨B, 0, none⟩), I many].toArray w (fun r w' => Hd s w' (Sl r 9 1 ts.length (ts.map S) :: BookP B ts :: L)) := by
  refine CC.of (N := 32) Try.func22 rfl rfl rfl ?_
  refine WC.seq ?_
  refine WC.region ?_
  refine l_st rfl (s_box (by conv => lhs; whnf) H fun b3 w H => ?_)
  refine l_st rfl (s_alloc ty29 H fun b4 w H => ?_)
  refine WL.nil ?_
  refine WC.seq ?_
  refine WC.region ?_
  refine l_st rfl (s_alloc ty29 H fun b5 w H => ?_)
  refine WL.nil ?_
  refine WC.seq ?_
  refine WC.region ?_
  refine l_rd rfl rfl (x_move (by conv => lhs; whnf)) ?_
  refine l_st rfl (s_callL cal29 (c29 _ H) ?_)
  rintro _ w ⟨b1, rfl, H⟩
  refine l_rd rfl rfl (x_assign (by conv => lhs; whnf)) ?_
  refine WL.nil ?_
  refine WC.seq ?_
  refine WC.seq ?_
  refine WC.region ?_
  refine l_rd rfl rfl (x_move (by conv => lhs; whnf)) ?_
  refine l_rd rfl rfl (x_eqlFN Try.underlying60 rfl) ?_
  refine WL.nil ?_
  refine WC.cond0 rfl ?_
  refine WC.skip ?_
  refine WC.seq ?_
  refine WC.seq ?_
  refine WC.region ?_
  refine l_rd rfl rfl (x_move (by conv => lhs; whnf)) ?_
  refine WL.nil ?_
  refine WC.block ?_
  have H := allI_mk (pre := []) ((((Hd.nil (((H.pick 4 rfl).pick 1 rfl).star) 9 1).pick 2 rfl).pick 3 rfl).pick 4 rfl)
  refine WC.rangeFn (P := Try.prog) (caps := [.pointer (some ⟨b1, 0, none⟩)]) (E := fun (p : ByteArray × Nat) vs => fun _ => vs = [I (p.2 : Nat), S p.1]) (xs := ts.zipIdx) (A := star (pt b1 (.cells #[.pointer (some ⟨B, 0, none⟩)] 25 (0, 0))) (BookP B ts)) (B := fun _ => star (pt b1 (.cells #[.pointer (some ⟨B, 0, none⟩)] 25 (0, 0))) (BookP B ts)) (I := allI b3 b4 b5 many) (X := fun _ _ => fun _ => False) (L := L) rfl cal33 (by decide) (fun x vs h hv => by have : vs = _ := hv; rw [this]; rfl) it33 H ?_ ?_ ?_
  ·
    intro l pre x rest vs w L' L2 hxs hrec H
    obtain ⟨hh, _, hvs⟩ := H.fact_at 1 rfl
    have hvs : vs = [I (x.2 : Nat), S x.1] := hvs
    subst hvs
    refine WC.seq ?_
    refine WC.region ?_
    refine l_rd rfl rfl (x_assign (by conv => lhs; whnf)) ?_
    refine WL.nil ?_
    refine WC.region ?_
    refine l_rd rfl rfl (x_assign (by conv => lhs; whnf)) ?_
    refine WL.nil ?_
    refine ⟨⟨[_, _], H⟩, fun w2 hw2 => ?_⟩
    clear hrec
    have H := Hd.drop (Hd.swp (hw2 [_, _] H))
    clear hw2
    obtain ⟨mv, H⟩ := allI_opn H
    obtain ⟨hx1, hx2⟩ := zip_mid hxs
    obtain ⟨am, cm, rfl⟩ := (H.sl 3 rfl).shape
    refine WC.block ?_
    refine WC.seq ?_
    refine WC.seq ?_
    refine WC.region ?_
    refine l_rd rfl rfl (x_move (by conv => lhs; whnf)) ?_
    refine l_rd rfl rfl (x_load Try.underlying29 rfl rfl (H.cellL 2 rfl rfl)) ?_
    refine l_rd rfl rfl (x_lenSlice Try.underlying29 rfl rfl) ?_
    refine l_rdD rfl rfl (x_neq rfl rfl) (fun h19 => ?_) (fun h19 => ?_)
    ·
      exact absurd (show ((x.2 : Nat) : Int) = ((pre.length : Nat) : Int) by rw [hx1]) h19
    ·
      refine l_rd rfl rfl (x_move (by conv => lhs; whnf)) ?_
      refine l_gy (wantY rfl rfl rfl) rfl rfl (x_load Try.underlying29 rfl rfl (H.cellL 2 rfl rfl)) ?_
      refine l_gy (wantY rfl rfl rfl) rfl rfl (x_lenSlice Try.underlying29 rfl rfl) ?_
      refine l_gy (wantY rfl rfl rfl) rfl rfl (x_load Try.underlying3 rfl rfl (H.cellL 0 rfl rfl)) ?_
      refine l_gyD (wantY rfl rfl rfl) rfl rfl (x_geq rfl rfl) (fun h24 => ?_) (fun h24 => ?_)
      ·
        exfalso; omega
      ·
        refine l_rd rfl rfl (x_pick0 rfl (by conv => lhs; whnf)) ?_
        refine WL.nil ?_
        refine WC.cond0 rfl ?_
        refine WC.skip ?_
        refine WC.region ?_
        refine l_rd rfl rfl (x_load Try.underlying29 rfl rfl (H.cellL 2 rfl rfl)) ?_
        refine l_rd rfl rfl (x_move (by conv => lhs; whnf)) ?_
        refine l_st rfl (s_build1 Try.underlying29 ty9 rfl (by conv => lhs; whnf) rfl H fun b29 w H => ?_)
        refine l_st rfl (s_append Try.underlying29 ty9 rfl (by decide) (by decide) rfl 4 rfl rfl rfl (H.sl 0 rfl) (by simp [Value.oneCell']) (by omega) H fun v30 w H => ?_)
        obtain ⟨a30, c30, rfl⟩ := (H.sl 4 rfl).shape
        refine l_no (s_st 3 rfl ty29 rfl (by conv => lhs; whnf) rfl rfl H fun w H => ?_)
        refine WL.nil ?_
        exact allI_mk (by simpa using H.drop)
  ·
    intro w m H
    obtain ⟨mv, H⟩ := allI_opn H
    obtain ⟨am, cm, rfl⟩ := (H.sl 3 rfl).shape
    have H := Hd.unstarAt [_, _, _, _] H
    refine WC.seq ?_
    refine WC.region ?_
    refine l_rd rfl rfl (x_load Try.underlying29 rfl rfl (H.cellL 2 rfl rfl)) ?_
    refine l_no (s_st 1 rfl ty29 rfl (by conv => lhs; whnf) rfl rfl H fun w H => ?_)
    refine WL.nil ?_
    refine WC.ret ?_
    refine atRet ?_
    refine RetM.mark H (i := 6) rfl (fun w H => ?_)
    exact RetM.cell1 rfl (by (conv => lhs; whnf); try rfl) Try.underlying29 rfl (H.cellL 1 rfl rfl) (by have H := Hd.dropAt [_] H.drop.drop.drop; have H := Hd.dropAt [_, _] H; simpa [zip_map] using H)
  ·
    intro w m c pre x rest hxs H
    obtain ⟨hh, _, hF⟩ := H.fact_at 0 rfl
    exact hF.elim

end Go.Proofs.Ytpoahelomhjnaaa
