/-
  What functions of this seat do: contracts, proved by walks, and the plain laws that they need; each with the conditions that it names.
-/
import Derived.Test.YteibnmkikdbndaaGreatDoorM2
import Derived.Test.YteibnmkikdbndaaGreatDoorE4
import Derived.Lib.ItoaLen
set_option linter.unusedVariables false
set_option linter.unusedSimpArgs false
namespace Go.Proofs.YteibnmkikdbndaaGreatDoor
open Go Go.RowKit KE Go.Proofs
theorem ty222 : Ty Tryz.prog 222 (.agg #[(.int .u32 0), (.int .u32 0), (.int .u32 0), (.int .u32 0), (.int .u32 0), (.int .u32 0), (.int .u32 0), (.int .u32 0), (.int .u32 0), (.int .u32 0), (.int .u32 0), (.int .u32 0), (.int .u32 0), (.int .u32 0), (.int .u32 0), (.int .u32 0), (.int .u32 0), (.int .u32 0), (.int .u32 0), (.int .u32 0), (.int .u32 0), (.int .u32 0), (.int .u32 0), (.int .u32 0), (.int .u32 0)]) 25 100 := Ty.of (by kernel_rfl)
def nfaC (v : Value) (fl : List Nat) (la : Nat) (em : Bool) : List Value := v :: (fl.map U ++ [U la, .bool em])
theorem nfaC_f {v : Value} {fl : List Nat} {la p x : Nat} {em : Bool} (h : fl[p]? = some x) : (nfaC v fl la em).toArray.toList[0 + 1 + p * 1]? = some (U x) := by
  have hp := (List.getElem?_eq_some_iff.1 h).1
  rw [show 0 + 1 + p * 1 = p + 1 by omega]
  show (v :: (fl.map U ++ [U la, .bool em]))[p + 1]? = _
  rw [List.getElem?_cons_succ, List.getElem?_append_left (by simpa using hp), List.getElem?_map, h]; rfl
theorem nfaC_len {v : Value} {fl : List Nat} {la : Nat} {em : Bool} : (nfaC v fl la em).length = fl.length + 3 := by simp [nfaC]
theorem nfaC_blt {v : Value} {fl : List Nat} {la p : Nat} {em : Bool} (h : p < fl.length) : Nat.blt (0 + 1 + p * 1) (nfaC v fl la em).toArray.toList.length = true := by
  have : (nfaC v fl la em).toArray.toList.length = fl.length + 3 := nfaC_len
  rw [this]
  exact Nat.ble_eq_true_of_le (by omega)
theorem nfaC_setF {v : Value} {fl : List Nat} {la p x : Nat} {em : Bool} (h : p < fl.length) : (nfaC v fl la em).toArray.toList.set (0 + 1 + p * 1) (U x) = nfaC v (fl.set p x) la em := by
  rw [show 0 + 1 + p * 1 = p + 1 by omega]
  show (v :: (fl.map U ++ [U la, .bool em])).set (p + 1) (U x) = _
  rw [List.set_cons_succ, List.set_append_left _ _ (by simpa using h), ← List.map_set]; rfl
def linkS (l : List Nat) (fl : List Nat) (b : Nat) : List Nat := l.foldl (fun fl p => fl.set p (fl.getD p 0 ||| b)) fl
theorem linkS_snoc {l fl : List Nat} {b x y : Nat} (h : (linkS l fl b)[x]? = some y) : linkS (l ++ [x]) fl b = (linkS l fl b).set x (y ||| b) := by
  unfold linkS at *
  rw [List.foldl_append]
  show (List.foldl _ fl l).set x ((List.foldl _ fl l).getD x 0 ||| b) = _
  rw [List.getD_eq_getElem?_getD, h]; rfl
theorem bits_lt25 {a p : Nat} (h : a < 33554432) (hp : p ∈ bitsF a) : p < 25 := by
  have h1 := bits_bit _ a (Nat.lt_succ_self _) (by omega) hp
  refine Nat.lt_of_not_le fun h2 => ?_
  rw [Nat.testBit_lt_two_pow (Nat.lt_of_lt_of_le h (show 2 ^ 25 ≤ 2 ^ p from Nat.pow_le_pow_right (by decide) h2))] at h1
  cases h1
theorem c178 {s : Sy} [NoEx s] {L : List Hp} {w0 : World} {n a b m : Nat} {v : Value} {fl : List Nat} {la : Nat} {em : Bool} (w : World) (hT : TB w0) (ha : a < 33554432) (hb : okS m b) (hfl : fl.length = 25 ∧ ∀ (i x : Nat), fl[i]? = some x → okS m x) (H : Hd s w (pt n (.cells (nfaC v fl la em).toArray 224 (0, 0)) :: fr w0 :: L)) : CC Tryz.prog 178 [.pointer (some ⟨n, 0, none⟩), U a, U b].toArray w (fun r w' => Hd s w' (pt n (.cells (nfaC v (linkL fl a b) la em).toArray 224 (0, 0)) :: fr w0 :: L)) := by
  refine CC.of (N := 21) Tryz.func178 rfl rfl rfl ?_
  refine WC.seq ?_
  refine WC.region ?_
  refine l_st rfl (s_box (by conv => lhs; whnf) H fun b3 w H => ?_)
  refine l_st rfl (s_box (by conv => lhs; whnf) H fun b5 w H => ?_)
  refine WL.nil ?_
  refine WC.seq ?_
  refine WC.region ?_
  refine l_rd rfl rfl (x_move (by conv => lhs; whnf)) ?_
  refine l_st rfl (s_callL cal221 (c221 _ H) ?_)
  rintro _ w ⟨b1, rfl, H⟩
  refine WL.nil ?_
  refine WC.block ?_
  have H := Hd.starAt [_] (Hd.sep (A := [_, _, _]) (Hd.arrT [_, _, _, _, _] [2, 1, 3, 0, 4] (by decide) rfl H))
  change Hd s w (sep [pt b3 (.cells #[.pointer (some ⟨n, 0, none⟩)] 126 (0, 0)), pt b5 (.cells #[U b] 221 (0, 0)), pt n (.cells (nfaC v (linkS [] fl b) la em).toArray 224 (0, 0))] :: _) at H
  refine WC.rangeFn (P := Tryz.prog) (caps := [.pointer (some ⟨b1, 0, none⟩)]) (E := nE) (xs := bitsF a) (A := star (pt b1 (.cells #[U a] 221 (0, 0))) (fr w0)) (B := fun _ => PX (α := Nat) (fun _ => True) (fun y => [pt b1 (.cells #[U y] 221 (0, 0)), fr w0])) (I := fun pre => sep [pt b3 (.cells #[.pointer (some ⟨n, 0, none⟩)] 126 (0, 0)), pt b5 (.cells #[U b] 221 (0, 0)), pt n (.cells (nfaC v (linkS pre fl b) la em).toArray 224 (0, 0))]) (X := fun _ _ => fun _ => False) (L := L) rfl cal253 (by decide) (fun x vs h hv => by have : vs = _ := hv; rw [this]; rfl) (it253 (by omega) hT) H ?_ ?_ ?_
  ·
    intro l pre x rest vs w L' L2 hxs hrec H
    obtain ⟨hh, _, hvs⟩ := H.fact_at 1 rfl
    have hvs : vs = [nI x] := hvs
    subst hvs
    refine WC.region ?_
    refine l_rd rfl rfl (x_assign (by conv => lhs; whnf)) ?_
    refine WL.nil ?_
    refine ⟨⟨[_, _], H⟩, fun w2 hw2 => ?_⟩
    clear hrec
    have H := Hd.arrT [_, _] [0] (by decide) rfl (hw2 [_, _] H)
    clear hw2
    have H := Hd.unsep (A := [pt b3 (.cells #[.pointer (some ⟨n, 0, none⟩)] 126 (0, 0)), pt b5 (.cells #[U b] 221 (0, 0)), pt n (.cells (nfaC v (linkS pre fl b) la em).toArray 224 (0, 0))]) H
    refine WC.block ?_
    have hx : x < 25 := bits_lt25 ha (by rw [hxs]; simp)
    have hok : (linkS pre fl b).length = 25 ∧ ∀ (i x : Nat), (linkS pre fl b)[i]? = some x → okS m x := linkL_ok hb pre fl hfl
    obtain ⟨y, hy⟩ := lt_get (show x < (linkS pre fl b).length by rw [hok.1]; exact hx)
    have hyo := hok.2 x y hy
    refine WC.draw mixed [11] [[], [], [0], [0, 2], [0, 1, 2, 3], [0, 1, 2, 3, 4], [], [0, 1, 2, 3, 4, 5, 6], [0], [0, 8], [0, 1, 2, 3, 4, 5, 6, 7, 8, 9], [0, 1, 2, 3, 4, 5, 6, 7, 8, 9, 10]] [0, 1, 2, 3, 4, 5, 6, 7, 8, 9, 10, 11] (by kernel_rfl) ?_
    have H := H.drew
    refine k_rd rfl rfl (RS.of rfl rfl (x_load Tryz.underlying126 rfl rfl (H.cellL 0 rfl rfl))) ?_
    refine k_rd rfl rfl (RS.of rfl rfl (x_move (by conv => lhs; whnf))) ?_
    refine k_rd rfl rfl (RS.of rfl rfl (x_nilCheck rfl)) ?_
    refine k_rd rfl rfl (RS.of rfl rfl (x_fieldAddr (k := 1) Tryz.underlying224 rfl rfl ty222 (by decide) rfl)) ?_
    refine k_rd rfl rfl (RS.of rfl rfl (x_indexAddrAr Tryz.underlying222 ty221 rfl rfl (by omega))) ?_
    refine k_rd rfl rfl (RS.of rfl rfl (x_load Tryz.underlying221 rfl rfl (H.cellL 2 rfl (nfaC_f hy)))) ?_
    refine k_rd rfl rfl (RS.of rfl rfl (x_load Tryz.underlying221 rfl rfl (H.cellL 1 rfl rfl))) ?_
    refine k_rd rfl rfl (RS.of rfl rfl (x_orU rfl rfl (by have := hyo.1; omega) (by have := hb.1; omega))) ?_
    refine k_rd rfl rfl (RS.of rfl rfl (x_nilCheck rfl)) ?_
    refine k_rd rfl rfl (RS.of rfl rfl (x_fieldAddr (k := 1) Tryz.underlying224 rfl rfl ty222 (by decide) rfl)) ?_
    refine k_rd rfl rfl (RS.of rfl rfl (x_indexAddrAr Tryz.underlying222 ty221 rfl rfl (by omega))) ?_
    refine k_no rfl rfl rfl (s_st 2 rfl ty221 rfl (by conv => lhs; whnf) rfl (nfaC_blt (by rw [hok.1]; exact hx)) H (fun w H => ⟨⟨trivial, ⟨trivial, ⟨trivial, ⟨trivial, ⟨trivial, ⟨trivial, ⟨trivial, ⟨trivial, ⟨trivial, ⟨trivial, ⟨trivial, trivial⟩⟩⟩⟩⟩⟩⟩⟩⟩⟩⟩, ?_⟩))
    rw [nfaC_setF (by rw [hok.1]; exact hx)] at H
    show _
    exact Hd.sep (A := [_, _, _]) (by rw [linkS_snoc hy]; exact Hd.arrT [_, _, _] [0, 1, 2] (by decide) rfl H)
  ·
    intro w m H
    have H := Hd.unsep (A := [pt b3 (.cells #[.pointer (some ⟨n, 0, none⟩)] 126 (0, 0)), pt b5 (.cells #[U b] 221 (0, 0)), pt n (.cells (nfaC v (linkS (bitsF a) fl b) la em).toArray 224 (0, 0))]) H
    have H := Hd.arrT [_, _, _, _] [3, 2, 0, 1] (by decide) rfl H
    obtain ⟨y9, -, H⟩ := PX.opn H
    refine atEnd ?_
    refine RetM.mark H (i := 5) rfl (fun w H => ?_)
    exact RetM.none' rfl (Hd.arrT [_, _, _, _, _, _] [2, 1] (by decide) rfl H)
  ·
    intro w m c pre x rest hxs H
    obtain ⟨hh, _, hF⟩ := H.fact_at 0 rfl
    exact hF.elim
theorem c186 {n : Nat} {a : Option Addr} {k c : Nat} {fl : List Nat} {la : Nat} {em : Bool} {f0 : Nat × Nat} (w : World) (hn : w.heap[n]? = some (.cells (nfaC (.slice a k c) fl la em).toArray 224 f0)) : CC Tryz.prog 186 [.pointer (some ⟨n, 0, none⟩)].toArray w (fun r w' => r = I k ∧ Ext w w') := by
  obtain ⟨w0, e0⟩ : ∃ w0, w0 = w := ⟨w, rfl⟩
  subst e0
  have H := Hd.start w0
  refine CC.of (N := 10) Tryz.func186 rfl rfl rfl ?_
  refine WC.seq ?_
  refine WC.region ?_
  refine l_rd rfl rfl (x_assign ev_c) ?_
  refine WL.nil ?_
  refine WC.seq ?_
  refine WC.seq ?_
  refine WC.region ?_
  refine l_rd rfl rfl (x_move (by conv => lhs; whnf)) ?_
  refine l_rd rfl rfl (x_eqlPN Tryz.underlying126 rfl) ?_
  refine WL.nil ?_
  refine WC.cond0 rfl ?_
  refine WC.skip ?_
  refine WC.seq ?_
  refine WC.region ?_
  refine l_rd rfl rfl (x_move (by conv => lhs; whnf)) ?_
  refine l_rd rfl rfl (x_nilCheck rfl) ?_
  refine l_rd rfl rfl (x_fieldAddr (k := 0) Tryz.underlying224 rfl rfl ty103 (by decide) rfl) ?_
  refine l_rd rfl rfl (x_load Tryz.underlying103 rfl rfl (cell_ofL ((H.old 0 rfl) _ _ hn) rfl)) ?_
  refine l_rd rfl rfl (x_lenSlice Tryz.underlying103 rfl rfl) ?_
  refine l_rd rfl rfl (x_assign (by conv => lhs; whnf)) ?_
  refine WL.nil ?_
  refine WC.ret ?_
  refine atRet ?_
  exact RetM.one rfl (by (conv => lhs; whnf); try rfl) (⟨rfl, H.below 0 rfl⟩)
theorem cal176 : Cal Tryz.prog 176 := ⟨_, Tryz.func176, rfl, by decide⟩
theorem cal182 : Cal Tryz.prog 182 := ⟨_, Tryz.func182, rfl, by decide⟩
theorem nfaC_at {v : Value} {fl : List Nat} {la j : Nat} {em : Bool} (hl : fl.length = 25) : (nfaC v fl la em).toArray.toList[0 + 26]? = some (U la) ∧ (nfaC v fl la em).toArray.toList[0 + 27]? = some (.bool em) := by
  constructor
  · show (v :: (fl.map U ++ [U la, .bool em]))[25 + 1]? = _
    rw [List.getElem?_cons_succ, List.getElem?_append_right (by simp [hl])]; simp [hl]
  · show (v :: (fl.map U ++ [U la, .bool em]))[26 + 1]? = _
    rw [List.getElem?_cons_succ, List.getElem?_append_right (by simp [hl])]; simp [hl]
theorem nfaC_la {v : Value} {fl : List Nat} {la : Nat} {em : Bool} (hl : fl.length = 25) : (nfaC v fl la em).toArray.toList[0 + 26]? = some (U la) := (nfaC_at (j := 0) hl).1
theorem nfaC_em {v : Value} {fl : List Nat} {la : Nat} {em : Bool} (hl : fl.length = 25) : (nfaC v fl la em).toArray.toList[0 + 27]? = some (.bool em) := (nfaC_at (j := 0) hl).2
def orS (l : List Nat) (fl : List Nat) : Nat := l.foldl (fun t p => t ||| fl.getD p 0) 0
def andS (labs : List ByteArray) (lb : ByteArray) (l : List Nat) (t : Nat) : Nat := l.foldl (fun t p => if labs.getD (p - 1) ⟨#[]⟩ = lb then t else t &&& (4294967295 - ofF p)) t
def stepF (labs : List ByteArray) (fl : List Nat) (q : Nat) (lb : ByteArray) : Nat := andS labs lb (bitsF (orS (bitsF q) fl)) (orS (bitsF q) fl)
theorem orS_snoc {l fl : List Nat} {x y : Nat} (h : fl[x]? = some y) : orS (l ++ [x]) fl = orS l fl ||| y := by
  unfold orS
  rw [List.foldl_append]
  show _ ||| fl.getD x 0 = _
  rw [List.getD_eq_getElem?_getD, h]; rfl
theorem orS_ok {m : Nat} {fl : List Nat} (hfl : ∀ (i x : Nat), fl[i]? = some x → okS m x) (l : List Nat) : okS m (orS l fl) := by
  have key : ∀ (l : List Nat) (t : Nat), okS m t → okS m (l.foldl (fun t p => t ||| fl.getD p 0) t) := by
    intro l
    induction l with
    | nil => exact fun t h => h
    | cons p l ih =>
      intro t h
      refine ih _ (h.or ?_)
      rw [List.getD_eq_getElem?_getD]
      cases e : fl[p]? with
      | none => exact okS.zero m
      | some y => exact hfl p y e
  exact key l 0 (okS.zero m)
theorem andS_ok {m t : Nat} (labs : List ByteArray) (lb : ByteArray) (ht : okS m t) (l : List Nat) : okS m (andS labs lb l t) := by
  unfold andS
  induction l generalizing t with
  | nil => exact ht
  | cons p l ih =>
    refine ih ?_
    show okS m (if labs.getD (p - 1) ⟨#[]⟩ = lb then t else t &&& (4294967295 - ofF p))
    split
    · exact ht
    · exact ht.and
theorem stepF_ok {m : Nat} {labs : List ByteArray} {fl : List Nat} (hfl : ∀ (i x : Nat), fl[i]? = some x → okS m x) (q : Nat) (lb : ByteArray) : okS m (stepF labs fl q lb) := andS_ok labs lb (orS_ok hfl _) _
theorem c133 {n : Nat} {v : Value} {fl : List Nat} {la : Nat} {em : Bool} {f0 : Nat × Nat} (w : World) (hl : fl.length = 25) (hn : w.heap[n]? = some (.cells (nfaC v fl la em).toArray 224 f0)) : CC Tryz.prog 133 [.pointer (some ⟨n, 0, none⟩)].toArray w (fun r w' => r = .bool em ∧ Ext w w') := by
  obtain ⟨w0, e0⟩ : ∃ w0, w0 = w := ⟨w, rfl⟩
  subst e0
  have H := Hd.start w0
  refine CC.of (N := 11) Tryz.func133 rfl rfl rfl ?_
  refine WC.seq ?_
  refine WC.region ?_
  refine l_rd rfl rfl (x_assign ev_c) ?_
  refine WL.nil ?_
  refine WC.seq ?_
  refine WC.region ?_
  refine l_rd rfl rfl (x_move (by conv => lhs; whnf)) ?_
  refine l_rd rfl rfl (x_neqPN Tryz.underlying126 rfl) ?_
  refine l_rd rfl rfl (x_move (by conv => lhs; whnf)) ?_
  refine l_gy (wantY rfl rfl rfl) rfl rfl (x_move (by conv => lhs; whnf)) ?_
  refine l_gy (wantY rfl rfl rfl) rfl rfl (x_nilCheck rfl) ?_
  refine l_gy (wantY rfl rfl rfl) rfl rfl (x_fieldAddr (k := 27) Tryz.underlying224 rfl rfl ty4 (by decide) rfl) ?_
  refine l_gy (wantY rfl rfl rfl) rfl rfl (x_load Tryz.underlying4 rfl rfl (cell_ofL ((H.old 0 rfl) _ _ hn) (nfaC_em hl))) ?_
  refine l_rd rfl rfl (x_pick1 rfl (by conv => lhs; whnf)) ?_
  refine l_rd rfl rfl (x_assign (by conv => lhs; whnf)) ?_
  refine WL.nil ?_
  refine WC.ret ?_
  refine atRet ?_
  exact RetM.one rfl (by (conv => lhs; whnf); try rfl) (⟨rfl, H.below 0 rfl⟩)
theorem c128 {s : Sy} [NoEx s] {L : List Hp} {w0 : World} {n : Nat} {v : Value} {fl : List Nat} {la : Nat} {em : Bool} (w : World) (hT : TB w0) (hl : fl.length = 25) (hla : la < 33554432) (H : Hd s w (pt n (.cells (nfaC v fl la em).toArray 224 (0, 0)) :: fr w0 :: L)) : CC Tryz.prog 128 [.pointer (some ⟨n, 0, none⟩)].toArray w (fun r w' => Hd s w' (Sl r 3 1 (bitsF la).length ((bitsF la).map nI) :: pt n (.cells (nfaC v fl la em).toArray 224 (0, 0)) :: fr w0 :: L)) := by
  refine CC.of (N := 10) Tryz.func128 rfl rfl rfl ?_
  refine WC.seq ?_
  refine WC.region ?_
  refine l_rd rfl rfl (x_assign ev_c) ?_
  refine WL.nil ?_
  refine WC.seq ?_
  refine WC.seq ?_
  refine WC.region ?_
  refine l_rd rfl rfl (x_move (by conv => lhs; whnf)) ?_
  refine l_rd rfl rfl (x_eqlPN Tryz.underlying126 rfl) ?_
  refine WL.nil ?_
  refine WC.cond0 rfl ?_
  refine WC.skip ?_
  refine WC.seq ?_
  refine WC.region ?_
  refine l_rd rfl rfl (x_move (by conv => lhs; whnf)) ?_
  refine l_rd rfl rfl (x_nilCheck rfl) ?_
  refine l_rd rfl rfl (x_fieldAddr (k := 26) Tryz.underlying224 rfl rfl ty221 (by decide) rfl) ?_
  refine l_rd rfl rfl (x_load Tryz.underlying221 rfl rfl (H.cellL 0 rfl (nfaC_la hl))) ?_
  refine l_st rfl (s_callL cal182 (c182 _ (by omega) hT (Hd.arrT [_, _] [1, 0] (by decide) rfl H)) ?_)
  rintro v9 w H
  refine l_rd rfl rfl (x_assign (by conv => lhs; whnf)) ?_
  refine WL.nil ?_
  refine WC.ret ?_
  refine atRet ?_
  exact RetM.one rfl (by (conv => lhs; whnf); try rfl) (Hd.arrT [_, _, _] [0, 2, 1] (by decide) rfl H)
theorem c187 {s : Sy} [NoEx s] {L : List Hp} {w0 : World} {n q : Nat} {v : Value} {labs : List ByteArray} {fl : List Nat} {la : Nat} {em : Bool} {lb : ByteArray} (w : World) (hT : TB w0) (hq : q < 33554432) (hfl : fl.length = 25 ∧ ∀ (i x : Nat), fl[i]? = some x → okS labs.length x) (hll : labs.length ≤ 24) (H : Hd s w (pt n (.cells (nfaC v fl la em).toArray 224 (0, 0)) :: Sl v 9 1 labs.length (labs.map S) :: fr w0 :: L)) : CC Tryz.prog 187 [.pointer (some ⟨n, 0, none⟩), U q, S lb].toArray w (fun r w' => r = U (stepF labs fl q lb) ∧ Hd s w' (pt n (.cells (nfaC v fl la em).toArray 224 (0, 0)) :: Sl v 9 1 labs.length (labs.map S) :: fr w0 :: L)) := by
  obtain ⟨a, c, rfl⟩ := (H.sl 1 rfl).shape
  refine CC.of (N := 38) Tryz.func187 rfl rfl rfl ?_
  refine WC.seq ?_
  refine WC.region ?_
  refine l_st rfl (s_box (by conv => lhs; whnf) H fun b3 w H => ?_)
  refine l_st rfl (s_box (by conv => lhs; whnf) H fun b5 w H => ?_)
  refine l_st rfl (s_alloc ty221 H fun b6 w H => ?_)
  refine WL.nil ?_
  refine WC.scope ?_
  refine WC.seq ?_
  refine WC.seq ?_
  refine WC.region ?_
  refine l_rd rfl rfl (x_move (by conv => lhs; whnf)) ?_
  refine l_st rfl (s_callL cal221 (c221 _ H) ?_)
  rintro _ w ⟨b1, rfl, H⟩
  refine WL.nil ?_
  refine WC.block ?_
  have H := Hd.starAt [_] (Hd.sep (A := [pt b6 (.cells #[U (orS [] fl)] 221 (0, 0)), pt b3 (.cells #[.pointer (some ⟨n, 0, none⟩)] 126 (0, 0)), pt n (.cells (nfaC (.slice a labs.length c) fl la em).toArray 224 (0, 0))]) (Hd.arrT [_, _, _, _, _, _, _] [1, 3, 4, 0, 6, 2, 5] (by decide) rfl H))
  refine WC.rangeFn (P := Tryz.prog) (caps := [.pointer (some ⟨b1, 0, none⟩)]) (E := nE) (xs := bitsF q) (A := star (pt b1 (.cells #[U q] 221 (0, 0))) (fr w0)) (B := fun _ => PX (α := Nat) (fun _ => True) (fun y => [pt b1 (.cells #[U y] 221 (0, 0)), fr w0])) (I := fun pre => sep [pt b6 (.cells #[U (orS pre fl)] 221 (0, 0)), pt b3 (.cells #[.pointer (some ⟨n, 0, none⟩)] 126 (0, 0)), pt n (.cells (nfaC (.slice a labs.length c) fl la em).toArray 224 (0, 0))]) (X := fun _ _ => fun _ => False) rfl cal253 (by decide) (fun x vs h hv => by have : vs = _ := hv; rw [this]; rfl) (it253 (by omega) hT) H (L := pt b5 (.cells #[S lb] 9 (0, 0)) :: Sl (.slice a labs.length c) 9 1 labs.length (labs.map S) :: L) ?_ ?_ ?_
  ·
    intro l pre x rest vs w L' L2 hxs hrec H
    obtain ⟨hh, _, hvs⟩ := H.fact_at 1 rfl
    have hvs : vs = [nI x] := hvs
    subst hvs
    refine WC.region ?_
    refine l_rd rfl rfl (x_assign (by conv => lhs; whnf)) ?_
    refine WL.nil ?_
    refine ⟨⟨[_, _], H⟩, fun w2 hw2 => ?_⟩
    clear hrec
    have H := Hd.arrT [_, _] [0] (by decide) rfl (hw2 [_, _] H)
    clear hw2
    have H := Hd.unsep (A := [pt b6 (.cells #[U (orS pre fl)] 221 (0, 0)), pt b3 (.cells #[.pointer (some ⟨n, 0, none⟩)] 126 (0, 0)), pt n (.cells (nfaC (.slice a labs.length c) fl la em).toArray 224 (0, 0))]) H
    refine WC.block ?_
    have hx : x < 25 := bits_lt25 hq (by rw [hxs]; simp)
    obtain ⟨y, hy⟩ := lt_get (show x < fl.length by rw [hfl.1]; exact hx)
    have hyo := hfl.2 x y hy
    have hoo := orS_ok hfl.2 pre
    refine WC.draw mixed [8] [[], [], [], [1], [1, 3], [1, 2, 3, 4], [1, 2, 3, 4, 5], [0, 1, 2, 3, 4, 5, 6], [0, 1, 2, 3, 4, 5, 6, 7]] [0, 1, 2, 3, 4, 5, 6, 7, 8] (by kernel_rfl) ?_
    have H := H.drew
    refine k_rd rfl rfl (RS.of rfl rfl (x_load Tryz.underlying221 rfl rfl (H.cellL 0 rfl rfl))) ?_
    refine k_rd rfl rfl (RS.of rfl rfl (x_load Tryz.underlying126 rfl rfl (H.cellL 1 rfl rfl))) ?_
    refine k_rd rfl rfl (RS.of rfl rfl (x_move (by conv => lhs; whnf))) ?_
    refine k_rd rfl rfl (RS.of rfl rfl (x_nilCheck rfl)) ?_
    refine k_rd rfl rfl (RS.of rfl rfl (x_fieldAddr (k := 1) Tryz.underlying224 rfl rfl ty222 (by decide) rfl)) ?_
    refine k_rd rfl rfl (RS.of rfl rfl (x_indexAddrAr Tryz.underlying222 ty221 rfl rfl (by omega))) ?_
    refine k_rd rfl rfl (RS.of rfl rfl (x_load Tryz.underlying221 rfl rfl (H.cellL 2 rfl (nfaC_f hy)))) ?_
    refine k_rd rfl rfl (RS.of rfl rfl (x_orU rfl rfl (by have := hoo.1; omega) (by have := hyo.1; omega))) ?_
    refine k_no rfl rfl rfl (s_st 0 rfl ty221 rfl (by conv => lhs; whnf) rfl rfl H fun w H => ⟨⟨trivial, ⟨trivial, ⟨trivial, ⟨trivial, ⟨trivial, ⟨trivial, ⟨trivial, ⟨trivial, trivial⟩⟩⟩⟩⟩⟩⟩⟩, ?_⟩)
    show _
    exact Hd.sep (A := [pt b6 (.cells #[U (orS (pre ++ [x]) fl)] 221 (0, 0)), pt b3 (.cells #[.pointer (some ⟨n, 0, none⟩)] 126 (0, 0)), pt n (.cells (nfaC (.slice a labs.length c) fl la em).toArray 224 (0, 0))]) (by rw [orS_snoc hy]; exact Hd.arrT [_, _, _] [0, 1, 2] (by decide) rfl H)
  ·
    intro w m H
    have H := Hd.unsep (A := [pt b6 (.cells #[U (orS (bitsF q) fl)] 221 (0, 0)), pt b3 (.cells #[.pointer (some ⟨n, 0, none⟩)] 126 (0, 0)), pt n (.cells (nfaC (.slice a labs.length c) fl la em).toArray 224 (0, 0))]) H
    have H := Hd.arrT [_, _, _, _] [3, 0, 1, 2] (by decide) rfl H
    obtain ⟨y9, -, H⟩ := PX.opn H
    refine WC.seq ?_
    refine WC.label ?_
    refine WC.seq ?_
    refine WC.seq ?_
    have hto := orS_ok hfl.2 (bitsF q)
    have htl : orS (bitsF q) fl < 4294967296 := by have := hto.1; omega
    refine WC.region ?_
    refine l_rd rfl rfl (x_load Tryz.underlying221 rfl rfl (H.cellL 2 rfl rfl)) ?_
    refine l_st rfl (s_callL cal221 (c221 _ H) ?_)
    rintro _ w ⟨b2, rfl, H⟩
    refine WL.nil ?_
    refine WC.block ?_
    have H := Hd.starAt [_] (Hd.sep (A := [pt b6 (.cells #[U (andS labs lb [] (orS (bitsF q) fl))] 221 (0, 0)), pt b3 (.cells #[.pointer (some ⟨n, 0, none⟩)] 126 (0, 0)), pt b5 (.cells #[S lb] 9 (0, 0)), pt n (.cells (nfaC (.slice a labs.length c) fl la em).toArray 224 (0, 0)), Sl (.slice a labs.length c) 9 1 labs.length (labs.map S)]) (Hd.arrT [_, _, _, _, _, _, _, _, _] [3, 4, 7, 5, 8, 0, 2, 1, 6] (by decide) rfl H))
    refine WC.rangeFn (P := Tryz.prog) (caps := [.pointer (some ⟨b2, 0, none⟩)]) (E := nE) (xs := bitsF (orS (bitsF q) fl)) (A := star (pt b2 (.cells #[U (orS (bitsF q) fl)] 221 (0, 0))) (fr w0)) (B := fun _ => PX (α := Nat) (fun _ => True) (fun y => [pt b2 (.cells #[U y] 221 (0, 0)), fr w0])) (I := fun pre => sep [pt b6 (.cells #[U (andS labs lb pre (orS (bitsF q) fl))] 221 (0, 0)), pt b3 (.cells #[.pointer (some ⟨n, 0, none⟩)] 126 (0, 0)), pt b5 (.cells #[S lb] 9 (0, 0)), pt n (.cells (nfaC (.slice a labs.length c) fl la em).toArray 224 (0, 0)), Sl (.slice a labs.length c) 9 1 labs.length (labs.map S)]) (X := fun _ _ => fun _ => False) rfl cal253 (by decide) (fun x vs h hv => by have : vs = _ := hv; rw [this]; rfl) (it253 (by omega) hT) H (L := pt b1 (.cells #[U y9] 221 (0, 0)) :: pt m (.deferred (some [])) :: L) ?_ ?_ ?_
    ·
      intro l pre x rest vs w L' L2 hxs hrec H
      obtain ⟨hh, _, hvs⟩ := H.fact_at 1 rfl
      have hvs : vs = [nI x] := hvs
      subst hvs
      refine WC.region ?_
      refine l_rd rfl rfl (x_assign (by conv => lhs; whnf)) ?_
      refine WL.nil ?_
      refine ⟨⟨[_, _], H⟩, fun w2 hw2 => ?_⟩
      clear hrec
      have H := Hd.arrT [_, _] [0] (by decide) rfl (hw2 [_, _] H)
      clear hw2
      have H := Hd.unsep (A := [pt b6 (.cells #[U (andS labs lb pre (orS (bitsF q) fl))] 221 (0, 0)), pt b3 (.cells #[.pointer (some ⟨n, 0, none⟩)] 126 (0, 0)), pt b5 (.cells #[S lb] 9 (0, 0)), pt n (.cells (nfaC (.slice a labs.length c) fl la em).toArray 224 (0, 0)), Sl (.slice a labs.length c) 9 1 labs.length (labs.map S)]) H
      refine WC.block ?_
      refine WC.seq ?_
      refine WC.seq ?_
      have hxo := okS.bits hto (p := x) (by rw [hxs]; simp)
      obtain ⟨lab, hlab⟩ := lt_get (show x - 1 < labs.length by omega)
      obtain ⟨b1_, o1_, rfl, hc1⟩ := (show RdL w2 (.slice a labs.length c) S labs from H.sl 4 rfl).el hlab
      have hoo := andS_ok labs lb hto pre
      refine WC.draw mixed [] [[], [0], [0, 1], [0, 1, 2], [], [4], [0, 1, 2, 3, 4, 5], [0, 1, 2, 3, 4, 5, 6], [], [0, 1, 2, 3, 4, 5, 6, 7, 8]] [0, 1, 2, 3, 4, 5, 6, 7, 8, 9] (by kernel_rfl) ?_
      have H := H.drew
      refine k_rd rfl rfl (RS.of rfl rfl (x_load Tryz.underlying126 rfl rfl (H.cellL 1 rfl rfl))) ?_
      refine k_rd rfl rfl (RS.of rfl rfl (x_nilCheck rfl)) ?_
      refine k_rd rfl rfl (RS.of rfl rfl (x_fieldAddr (k := 0) Tryz.underlying224 rfl rfl ty103 (by decide) rfl)) ?_
      refine k_rd rfl rfl (RS.of rfl rfl (x_load Tryz.underlying103 rfl rfl (H.cellL 3 rfl rfl))) ?_
      refine k_rd rfl rfl (RS.of rfl rfl (x_move (by conv => lhs; whnf))) ?_
      refine k_rd rfl rfl (RS.of rfl rfl (x_subN (a := x) (b := 1) rfl rfl (by omega) (by omega))) ?_
      refine k_rd rfl rfl (RS.of rfl rfl (x_indexAddr Tryz.underlying103 ty9 rfl rfl (by omega) (by omega))) ?_
      refine k_rd rfl rfl (RS.of rfl rfl (x_load Tryz.underlying9 rfl rfl hc1)) ?_
      refine k_rd rfl rfl (RS.of rfl rfl (x_load Tryz.underlying9 rfl rfl (H.cellL 2 rfl rfl))) ?_
      refine k_rdD rfl rfl rfl rfl (x_eqlS rfl rfl) (fun h32 => ?_) (fun h32 => ?_)
      ·
        show _
        refine WC.cond1 rfl ?_
        refine WC.exit ?_
        have hst : andS labs lb (pre ++ [x]) (orS (bitsF q) fl) = andS labs lb pre (orS (bitsF q) fl) := by unfold andS; rw [List.foldl_append]; show (if labs.getD (x - 1) ⟨#[]⟩ = lb then _ else _) = _; rw [List.getD_eq_getElem?_getD, hlab]; exact if_pos h32
        exact Hd.sep (A := [pt b6 (.cells #[U (andS labs lb (pre ++ [x]) (orS (bitsF q) fl))] 221 (0, 0)), pt b3 (.cells #[.pointer (some ⟨n, 0, none⟩)] 126 (0, 0)), pt b5 (.cells #[S lb] 9 (0, 0)), pt n (.cells (nfaC _ fl la em).toArray 224 (0, 0)), Sl _ 9 1 labs.length (labs.map S)]) (by rw [hst]; exact Hd.arrT [_, _, _, _, _] [0, 1, 2, 3, 4] (by decide) rfl H)
      ·
        show _
        refine WC.cond0 rfl ?_
        refine WC.skip ?_
        refine WC.draw mixed [2, 4] [[], [], [1], [0, 1, 2], [0, 1, 2, 3]] [0, 1, 2, 3, 4] (by kernel_rfl) ?_
        have H := H.drew
        refine k_rd rfl rfl (RS.of rfl rfl (x_load Tryz.underlying221 rfl rfl (H.cellL 0 rfl rfl))) ?_
        refine k_rd rfl rfl (RS.of rfl rfl (x_move (by conv => lhs; whnf))) ?_
        refine k_st rfl rfl rfl (s_callL cal176 (c176 _) ?_)
        rintro _ w ⟨rfl, e1⟩
        have H := H.ext e1
        refine ⟨⟨trivial, ⟨RS.of rfl rfl (x_load Tryz.underlying221 rfl rfl (H.cellL 0 rfl rfl)), trivial⟩⟩, ?_⟩
        refine k_rd rfl rfl (RS.of rfl rfl (x_andNotU rfl rfl (by have := hoo.1; omega) (by have := ofF_lt x; omega))) ?_
        refine k_no rfl rfl rfl (s_st 0 rfl ty221 rfl (by conv => lhs; whnf) rfl rfl H fun w H => ⟨⟨trivial, ⟨trivial, ⟨trivial, trivial⟩⟩⟩, ?_⟩)
        show _
        have hst : andS labs lb (pre ++ [x]) (orS (bitsF q) fl) = andS labs lb pre (orS (bitsF q) fl) &&& (4294967295 - ofF x) := by unfold andS; rw [List.foldl_append]; show (if labs.getD (x - 1) ⟨#[]⟩ = lb then _ else _) = _; rw [List.getD_eq_getElem?_getD, hlab]; exact if_neg h32
        exact Hd.sep (A := [pt b6 (.cells #[U (andS labs lb (pre ++ [x]) (orS (bitsF q) fl))] 221 (0, 0)), pt b3 (.cells #[.pointer (some ⟨n, 0, none⟩)] 126 (0, 0)), pt b5 (.cells #[S lb] 9 (0, 0)), pt n (.cells (nfaC _ fl la em).toArray 224 (0, 0)), Sl _ 9 1 labs.length (labs.map S)]) (by rw [hst]; exact Hd.arrT [_, _, _, _, _] [0, 1, 2, 3, 4] (by decide) rfl H)
    ·
      intro w m H
      have H := Hd.unsep (A := [pt b6 (.cells #[U (andS labs lb (bitsF (orS (bitsF q) fl)) (orS (bitsF q) fl))] 221 (0, 0)), pt b3 (.cells #[.pointer (some ⟨n, 0, none⟩)] 126 (0, 0)), pt b5 (.cells #[S lb] 9 (0, 0)), pt n (.cells (nfaC (.slice a labs.length c) fl la em).toArray 224 (0, 0)), Sl (.slice a labs.length c) 9 1 labs.length (labs.map S)]) H
      have H := Hd.arrT [_, _, _, _, _, _] [5, 0, 1, 2, 3, 4] (by decide) rfl H
      obtain ⟨y8, -, H⟩ := PX.opn H
      refine WC.seq ?_
      refine WC.region ?_
      refine l_rd rfl rfl (x_load Tryz.underlying221 rfl rfl (H.cellL 2 rfl rfl)) ?_
      refine l_no (s_st 2 rfl ty221 rfl (by conv => lhs; whnf) rfl rfl H fun w H => ?_)
      refine WL.nil ?_
      refine WC.ret ?_
      refine atRet ?_
      refine RetM.mark H (i := 7) rfl (fun w H => ?_)
      refine RetM.mark H (i := 9) rfl (fun w H => ?_)
      exact RetM.cell1 rfl (by (conv => lhs; whnf); try rfl) Tryz.underlying221 rfl (H.cellL 2 rfl rfl) (⟨rfl, Hd.arrT [_, _, _, _, _, _, _, _, _, _] [5, 6, 1] (by decide) rfl H⟩)
    ·
      intro w m c pre x rest hxs H
      obtain ⟨hh, _, hF⟩ := H.fact_at 0 rfl
      exact hF.elim
  ·
    intro w m c pre x rest hxs H
    obtain ⟨hh, _, hF⟩ := H.fact_at 0 rfl
    exact hF.elim
theorem cal186 : Cal Tryz.prog 186 := ⟨_, Tryz.func186, rfl, by decide⟩
theorem cal187 : Cal Tryz.prog 187 := ⟨_, Tryz.func187, rfl, by decide⟩
def setF (m : Nat) (ps : List Nat) : Nat := ps.foldl (fun s p => if p ≤ m then s ||| ofF p else s) 0
theorem setF_lt (m : Nat) (ps : List Nat) : setF m ps < 33554432 := by
  have key : ∀ (l : List Nat) (t : Nat), t < 33554432 → l.foldl (fun s p => if p ≤ m then s ||| ofF p else s) t < 33554432 := by
    intro l
    induction l with
    | nil => exact fun t h => h
    | cons p l ih =>
      intro t h
      refine ih _ ?_
      show (if p ≤ m then t ||| ofF p else t) < _
      split
      · exact Nat.or_lt_two_pow (n := 25) h (ofF_lt p)
      · exact h
  exact key ps 0 (by omega)
theorem setF_y {m k p : Nat} {ps : List Nat} (h : ps[k]? = some p) (hp : p ≤ m) : setF m (ps.take (k + 1)) = setF m (ps.take k) ||| ofF p := by
  unfold setF
  rw [List.take_add_one, h, Option.toList_some, List.foldl_append]
  show (if p ≤ m then _ else _) = _
  rw [if_pos hp]
theorem setF_n {m k p : Nat} {ps : List Nat} (h : ps[k]? = some p) (hp : ¬ p ≤ m) : setF m (ps.take (k + 1)) = setF m (ps.take k) := by
  unfold setF
  rw [List.take_add_one, h, Option.toList_some, List.foldl_append]
  show (if p ≤ m then _ else _) = _
  rw [if_neg hp]
theorem c130 {s : Sy} [NoEx s] {L : List Hp} {w0 : World} {n : Nat} {v fv : Value} {labs : List ByteArray} {fl ps : List Nat} {la : Nat} {em : Bool} {lb : ByteArray} (w : World) (hT : TB w0) (hfl : fl.length = 25 ∧ ∀ (i x : Nat), fl[i]? = some x → okS labs.length x) (hll : labs.length ≤ 24) (hr : ∀ (w : World) (A : List Hp), Hd s w (A ++ L) → RdL w fv nI ps) (H : Hd s w (pt n (.cells (nfaC v fl la em).toArray 224 (0, 0)) :: Sl v 9 1 labs.length (labs.map S) :: fr w0 :: L)) : CC Tryz.prog 130 [.pointer (some ⟨n, 0, none⟩), fv, S lb].toArray w (fun r w' => Hd s w' (Sl r 3 1 (bitsF (stepF labs fl (setF labs.length ps) lb)).length ((bitsF (stepF labs fl (setF labs.length ps) lb)).map nI) :: pt n (.cells (nfaC v fl la em).toArray 224 (0, 0)) :: Sl v 9 1 labs.length (labs.map S) :: fr w0 :: L)) := by
  obtain ⟨a, c, rfl⟩ := (hr w [_, _, _] H).shape
  have hle := (hr w [_, _, _] H).le
  obtain ⟨va, vc, rfl⟩ := (H.sl 1 rfl).shape
  refine CC.of (N := 32) Tryz.func130 rfl rfl rfl ?_
  refine WC.seq ?_
  refine WC.region ?_
  refine l_rd rfl rfl (x_assign ev_c) ?_
  refine WL.nil ?_
  refine WC.seq ?_
  refine WC.seq ?_
  refine WC.region ?_
  refine l_rd rfl rfl (x_move (by conv => lhs; whnf)) ?_
  refine l_rd rfl rfl (x_eqlPN Tryz.underlying126 rfl) ?_
  refine WL.nil ?_
  refine WC.cond0 rfl ?_
  refine WC.skip ?_
  refine WC.seq ?_
  refine WC.region ?_
  refine l_rd rfl rfl (x_assign ev_c) ?_
  refine WL.nil ?_
  refine WC.seq ?_
  refine WC.seq ?_
  refine WC.region ?_
  refine l_rd rfl rfl (x_move (by conv => lhs; whnf)) ?_
  refine l_rd rfl rfl (x_lenSlice Tryz.underlying176 rfl rfl) ?_
  refine l_rd rfl rfl (x_move ev_c) ?_
  refine WL.nil ?_
  refine WC.block ?_
  refine WC.loop (fun ρ ds w => ∃ k : Nat, k ≤ ps.length ∧ ρ 14 = I k ∧ ρ 13 = I ps.length ∧ ρ 12 = .slice a ps.length c ∧ ρ 7 = U (setF labs.length (ps.take k)) ∧ ρ 0 = .pointer (some ⟨n, 0, none⟩) ∧ ρ 2 = S lb ∧ ds = [] ∧ Hd s w (pt n (.cells (nfaC (.slice va labs.length vc) fl la em).toArray 224 (0, 0)) :: Sl (.slice va labs.length vc) 9 1 labs.length (labs.map S) :: fr w0 :: L)) (fun ρ w => ps.length - (match ρ 14 with | .int _ k => k.toNat | _ => 0)) (⟨0, Nat.zero_le _, rfl, rfl, rfl, rfl, rfl, rfl, rfl, H⟩) ?_
  repeat clear H
  rintro ρ ds w ⟨k, hk, h14, h13, h12, h7, h0, h2, rfl, H⟩
  refine WC.seq ?_
  refine WC.region ?_
  refine l_rdD rfl rfl (x_lss h14 h13) (fun h15 => ?_) (fun h15 => ?_)
  ·
    refine WL.nil ?_
    refine WC.seq ?_
    refine WC.cond1 rfl ?_
    refine WC.skip ?_
    refine WC.seq ?_
    refine WC.block ?_
    refine WC.seq ?_
    obtain ⟨p, hp⟩ := lt_get (show k < ps.length by omega)
    obtain ⟨b1, o1, rfl, hc1⟩ := (show RdL w (.slice a ps.length c) nI ps from hr w [_, _, _] H).el hp
    refine WC.region ?_
    refine l_rd rfl rfl (x_indexAddr Tryz.underlying176 ty3 h12 h14 (by omega) (by omega)) ?_
    refine l_rd rfl rfl (x_load Tryz.underlying3 rfl rfl hc1) ?_
    refine l_rd rfl rfl (x_assign (by conv => lhs; whnf)) ?_
    refine WL.nil ?_
    refine WC.seq ?_
    refine WC.region ?_
    refine l_rd rfl rfl (x_move (by conv => lhs; whnf)) ?_
    refine l_rd rfl rfl (x_move h0) ?_
    refine l_st rfl (s_callL cal186 (c186 (k := labs.length) _ (H.obj 0 rfl)) ?_)
    rintro _ w ⟨rfl, e1⟩
    have H := H.ext e1
    refine l_rdD rfl rfl (x_leq rfl rfl) (fun h21 => ?_) (fun h21 => ?_)
    ·
      refine WL.nil ?_
      refine WC.cond1 rfl ?_
      refine WC.region ?_
      refine l_rd rfl rfl (x_move h7) ?_
      refine l_rd rfl rfl (x_move (by conv => lhs; whnf)) ?_
      refine l_st rfl (s_callL cal176 (c176 _) ?_)
      rintro _ w ⟨rfl, e1⟩
      have H := H.ext e1
      refine l_rd rfl rfl (x_orU rfl rfl (by have := setF_lt labs.length (ps.take k); omega) (by have := ofF_lt p; omega)) ?_
      refine l_rd rfl rfl (x_assign (by conv => lhs; whnf)) ?_
      refine WL.nil ?_
      refine WC.region ?_
      refine l_rd rfl rfl (x_add h14 rfl (by omega) (by omega)) ?_
      refine l_rd rfl rfl (x_move (by conv => lhs; whnf)) ?_
      refine WL.nil ?_
      refine WC.again (⟨k + 1, by omega, rfl, h13, h12, by rw [setF_y hp (by omega)]; rfl, h0, h2, rfl, H⟩) (by show _ - _ < _ - _; rw [h14]; show ps.length - ((k : Int) + 1).toNat < ps.length - (k : Int).toNat; omega)
    ·
      refine WL.nil ?_
      refine WC.cond0 rfl ?_
      refine WC.skip ?_
      refine WC.region ?_
      refine l_rd rfl rfl (x_add h14 rfl (by omega) (by omega)) ?_
      refine l_rd rfl rfl (x_move (by conv => lhs; whnf)) ?_
      refine WL.nil ?_
      refine WC.again (⟨k + 1, by omega, rfl, h13, h12, by rw [setF_n hp (by omega)]; exact h7, h0, h2, rfl, H⟩) (by show _ - _ < _ - _; rw [h14]; show ps.length - ((k : Int) + 1).toNat < ps.length - (k : Int).toNat; omega)
  ·
    refine WL.nil ?_
    refine WC.seq ?_
    refine WC.cond0 rfl ?_
    refine WC.exit ?_
    refine WC.seq ?_
    rw [List.take_of_length_le (show ps.length ≤ k by omega)] at h7
    refine WC.region ?_
    refine l_rd rfl rfl (x_move h0) ?_
    refine l_rd rfl rfl (x_move h7) ?_
    refine l_rd rfl rfl (x_move h2) ?_
    refine l_st rfl (s_callL cal187 (c187 _ hT (setF_lt _ _) hfl hll H) ?_)
    rintro _ w ⟨rfl, H⟩
    refine l_st rfl (s_callL cal182 (c182 _ (by have := (stepF_ok (labs := labs) hfl.2 (setF labs.length ps) lb).1; omega) hT (Hd.arrT [_, _, _] [2, 0, 1] (by decide) rfl H)) ?_)
    rintro v9 w H
    refine l_rd rfl rfl (x_assign (by conv => lhs; whnf)) ?_
    refine WL.nil ?_
    refine WC.ret ?_
    refine atRet ?_
    exact RetM.one rfl (by (conv => lhs; whnf); try rfl) (Hd.arrT [_, _, _, _] [0, 2, 3, 1] (by decide) rfl H)
theorem ty226 : Ty Tryz.prog 226 (.agg #[(.int .u32 0), (.int .u32 0)]) 2 8 := Ty.of (by kernel_rfl)
theorem cal61 : Cal Tryz.prog 61 := ⟨_, Tryz.func61, rfl, by decide⟩
theorem cal124 : Cal Tryz.prog 124 := ⟨_, Tryz.func124, rfl, by decide⟩
theorem cal177 : Cal Tryz.prog 177 := ⟨_, Tryz.func177, rfl, by decide⟩
theorem cal178 : Cal Tryz.prog 178 := ⟨_, Tryz.func178, rfl, by decide⟩
def nfA (n : Nat) (st : Ns) (la : Nat) (em : Bool) (v : Value) : List Hp := [pt n (.cells (nfaC v st.2 la em).toArray 224 (0, 0)), Sl v 9 1 st.1.length (st.1.map S)]
def nfP (n : Nat) (st : Ns) (la : Nat) (em : Bool) : Hp := PX (fun _ => True) (nfA n st la em)
theorem drop_at {α : Type} {xs : List α} {k : Nat} {x : α} (h : xs[k]? = some x) : xs.drop k = x :: xs.drop (k + 1) := by
  obtain ⟨hk, e⟩ := List.getElem?_eq_some_iff.1 h
  rw [List.drop_eq_getElem_cons hk, e]
theorem c177 {s : Sy} [NoEx s] {L : List Hp} {w0 : World} {n : Nat} {kv : Value} {ks : List Et} {st : Ns} {la : Nat} {em : Bool} (w : World) (hT : TB w0) (hr : RdS w0 kv 3 etC ks) (hk : ∀ x ∈ ks, EtR w0 x) (hok : okN st) (hlv : st.1.length + leavesL ks ≤ 24) (ih : ∀ x ∈ ks, ∀ {s : Sy} [NoEx s] {L : List Hp} (st : Ns) (w : World), okN st → st.1.length + leaves x ≤ 24 → Hd s w (nfP n st la em :: fr w0 :: L) → CC Tryz.prog 124 [.pointer (some ⟨n, 0, none⟩), .agg (etC x).toArray].toArray w (fun r w' => r = .agg #[U (partF x st).2.1, U (partF x st).2.2] ∧ Hd s w' (nfP n (partF x st).1 la em :: fr w0 :: L))) (H : Hd s w (nfP n st la em :: fr w0 :: L)) : CC Tryz.prog 177 [.pointer (some ⟨n, 0, none⟩), kv].toArray w (fun r w' => r = .agg #[U (rowF ks st true 0 0).2.1, U (rowF ks st true 0 0).2.2] ∧ Hd s w' (nfP n (rowF ks st true 0 0).1 la em :: fr w0 :: L)) := by
  obtain ⟨a, c, rfl⟩ := hr.shape
  have hle := hr.le
  refine CC.of (N := 42) Tryz.func177 rfl rfl rfl ?_
  refine WC.seq ?_
  refine WC.region ?_
  refine l_st rfl (s_alloc ty226 H fun b4 w H => ?_)
  refine WL.nil ?_
  refine WC.seq ?_
  refine WC.region ?_
  refine l_rd rfl rfl (x_assign ev_c) ?_
  refine l_rd rfl rfl (x_assign ev_c) ?_
  refine WL.nil ?_
  refine WC.seq ?_
  refine WC.seq ?_
  refine WC.region ?_
  refine l_rd rfl rfl (x_move (by conv => lhs; whnf)) ?_
  refine l_rd rfl rfl (x_lenSlice Tryz.underlying23 rfl rfl) ?_
  refine l_rd rfl rfl (x_move ev_c) ?_
  refine WL.nil ?_
  refine WC.block ?_
  refine WC.loop (fun ρ ds w => ∃ (k : Nat) (st1 : Ns) (op : Bool) (ends first : Nat), k ≤ ks.length ∧ rowF ks st true 0 0 = rowF (ks.drop k) st1 op ends first ∧ okN st1 ∧ okS st1.1.length ends ∧ okS st1.1.length first ∧ st1.1.length + leavesL (ks.drop k) ≤ 24 ∧ ρ 12 = I k ∧ ρ 11 = I ks.length ∧ ρ 10 = .slice a ks.length c ∧ ρ 5 = .bool op ∧ ρ 6 = U ends ∧ ρ 0 = .pointer (some ⟨n, 0, none⟩) ∧ ρ 4 = .pointer (some ⟨b4, 0, none⟩) ∧ ds = [] ∧ Hd s w (pt b4 (.cells #[U first, U 0] 226 (0, 0)) :: nfP n st1 la em :: fr w0 :: L)) (fun ρ w => ks.length - (match ρ 12 with | .int _ k => k.toNat | _ => 0)) (⟨0, st, true, 0, 0, Nat.zero_le _, rfl, hok, okS.zero _, okS.zero _, hlv, rfl, rfl, rfl, rfl, rfl, rfl, rfl, rfl, H⟩) ?_
  repeat clear H
  rintro ρ ds w ⟨k, st1, op, ends, first, hk1, hrow, ho1, he, hf, hl1, h12, h11, h10, h5, h6, h0, h4, rfl, H⟩
  refine WC.seq ?_
  refine WC.region ?_
  refine l_rdD rfl rfl (x_lss h12 h11) (fun h13 => ?_) (fun h13 => ?_)
  ·
    refine WL.nil ?_
    refine WC.seq ?_
    refine WC.cond1 rfl ?_
    refine WC.skip ?_
    refine WC.seq ?_
    refine WC.block ?_
    refine WC.seq ?_
    obtain ⟨x, hxk⟩ := lt_get (show k < ks.length by omega)
    obtain ⟨b1, o1, rfl, hc1⟩ := hr.el etC_len hxk
    have hxm : x ∈ ks := List.mem_of_getElem? hxk
    have hxt := hk x hxm
    have hdr := drop_at hxk
    rw [hdr, leavesL] at hl1
    have hX := partF_ok x st1 ho1 (by omega)
    refine WC.region ?_
    refine l_rd rfl rfl (x_indexAddr Tryz.underlying23 ty25 h10 h12 (by omega) (by omega)) ?_
    refine l_rd rfl rfl (x_loadF (vs := [_, _, _]) Tryz.underlying25 rfl ty25 rfl rfl (sub_row 0 (fun j u hj => (H.old 2 rfl).cell (hc1 j u hj)) rfl)) ?_
    refine l_st rfl (s_alloc ty25 H fun b8 w H => ?_)
    refine l_no (s_stA 0 rfl ty25 rfl (by conv => lhs; whnf) rfl (etC_one hxt) rfl H (fun w H => ?_))
    refine WL.nil ?_
    refine WC.seq ?_
    refine WC.region ?_
    refine l_rd rfl rfl (x_move h0) ?_
    refine l_rd rfl rfl (x_loadF (vs := [_, _, _]) Tryz.underlying25 rfl ty25 rfl rfl (H.cellsL 0 rfl rfl)) ?_
    refine l_st rfl (s_callL cal124 (ih x hxm st1 _ ho1 (by omega) (Hd.arrT [_, _, _, _] [2, 3, 0, 1] (by decide) rfl H)) ?_)
    rintro _ w ⟨rfl, H⟩
    generalize hXX : partF x st1 = X at H hX
    obtain ⟨hXo, hXf, hXl, hXn⟩ := hX
    have hXm : st1.1.length ≤ X.1.1.length := by omega
    refine l_st rfl (s_alloc ty226 H fun b9 w H => ?_)
    refine l_no (s_stA 0 rfl ty226 rfl (by conv => lhs; whnf) rfl rfl rfl H fun w H => ?_)
    refine WL.nil ?_
    refine WC.seq ?_
    refine WC.region ?_
    refine l_rd rfl rfl (x_move h0) ?_
    refine l_rd rfl rfl (x_move h6) ?_
    refine l_rd rfl rfl (x_fieldAddr (k := 0) Tryz.underlying226 rfl rfl ty221 (by decide) rfl) ?_
    refine l_rd rfl rfl (x_load Tryz.underlying221 rfl rfl (H.cellL 0 rfl rfl)) ?_
    obtain ⟨v, -, H⟩ := PX.opn (Hd.arrT [_, _, _, _, _] [1, 0, 2, 3, 4] (by decide) rfl H)
    refine l_st rfl (s_callL cal178 (c178 _ hT he.1 hXf ⟨hXo.1, hXo.2.2⟩ (Hd.arrT [_, _, _, _, _, _] [0, 3, 1, 2, 4, 5] (by decide) rfl H)) ?_)
    rintro _ w H
    have H := PX.mk (α := Value) (φ := fun _ => True) (A := nfA n (X.1.1, linkL X.1.2 ends X.2.1) la em) v trivial (Hd.arrT [_, _, _, _, _, _] [0, 2, 1, 3, 4, 5] (by decide) rfl H)
    refine WL.nil ?_
    refine WC.seq ?_
    refine WC.seq ?_
    refine WC.region ?_
    refine l_rd rfl rfl (x_move h5) ?_
    refine WL.nil ?_
    cases op
    ·
      refine WC.cond0 rfl ?_
      refine WC.skip ?_
      refine WC.seq ?_
      refine WC.seq ?_
      refine WC.region ?_
      refine l_rd rfl rfl (x_loadF (vs := [_, _, _]) Tryz.underlying25 rfl ty25 rfl rfl (H.cellsL 3 rfl rfl)) ?_
      refine l_st rfl (s_callL cal61 (c61 _ (hxt.old (H.old 1 rfl))) ?_)
      rintro _ w ⟨rfl, e1⟩
      have H := H.ext e1
      refine l_rd rfl rfl (x_not rfl) ?_
      refine WL.nil ?_
      cases hE : !emptyE x
      ·
        refine WC.cond0 (by show Value.bool (!emptyE x) = _; rw [hE]) ?_
        refine WC.skip ?_
        refine WC.region ?_
        refine l_rd rfl rfl (x_move h6) ?_
        refine l_rd rfl rfl (x_fieldAddr (k := 1) Tryz.underlying226 rfl rfl ty221 (by decide) rfl) ?_
        refine l_rd rfl rfl (x_load Tryz.underlying221 rfl rfl (H.cellL 2 rfl rfl)) ?_
        refine l_rd rfl rfl (x_orU rfl rfl (by first | decide | omega | (have := he.1; omega)) (by have := hXl.1; omega)) ?_
        refine l_rd rfl rfl (x_assign (by conv => lhs; whnf)) ?_
        refine WL.nil ?_
        refine WC.region ?_
        refine l_rd rfl rfl (x_add h12 rfl (by omega) (by omega)) ?_
        refine l_rd rfl rfl (x_move (by conv => lhs; whnf)) ?_
        refine WL.nil ?_
        have hE2 : emptyE x = true := by cases h : emptyE x <;> simp_all
        have hrw : rowF (x :: ks.drop (k + 1)) st1 false ends first = rowF (ks.drop (k + 1)) (X.1.1, linkL X.1.2 ends X.2.1) false (ends ||| X.2.2) first := by rw [rowF, hE2, hXX]; rfl
        refine WC.again (⟨k + 1, (X.1.1, linkL X.1.2 ends X.2.1), false, (ends ||| X.2.2), first, by omega, by rw [hrow, hdr, hrw], hXo.link hXf, (he.mono hXm).or hXl, hf.mono hXm, by show X.1.1.length + _ ≤ 24; omega, rfl, h11, h10, h5, rfl, h0, h4, rfl, Hd.arrT [_, _, _, _, _] [4, 0, 1] (by decide) rfl H⟩) (by show _ - _ < _ - _; rw [h12]; show ks.length - ((k : Int) + 1).toNat < ks.length - (k : Int).toNat; omega)
      ·
        refine WC.cond1 (by show Value.bool (!emptyE x) = _; rw [hE]) ?_
        refine WC.region ?_
        refine l_rd rfl rfl (x_assign ev_c) ?_
        refine l_rd rfl rfl (x_assign ev_c) ?_
        refine WL.nil ?_
        refine WC.region ?_
        refine l_rd rfl rfl (x_move (by conv => lhs; whnf)) ?_
        refine l_rd rfl rfl (x_fieldAddr (k := 1) Tryz.underlying226 rfl rfl ty221 (by decide) rfl) ?_
        refine l_rd rfl rfl (x_load Tryz.underlying221 rfl rfl (H.cellL 2 rfl rfl)) ?_
        refine l_rd rfl rfl (x_orU rfl rfl (by first | decide | omega | (have := he.1; omega)) (by have := hXl.1; omega)) ?_
        refine l_rd rfl rfl (x_assign (by conv => lhs; whnf)) ?_
        refine WL.nil ?_
        refine WC.region ?_
        refine l_rd rfl rfl (x_add h12 rfl (by omega) (by omega)) ?_
        refine l_rd rfl rfl (x_move (by conv => lhs; whnf)) ?_
        refine WL.nil ?_
        have hE2 : emptyE x = false := by cases h : emptyE x <;> simp_all
        have hrw : rowF (x :: ks.drop (k + 1)) st1 false ends first = rowF (ks.drop (k + 1)) (X.1.1, linkL X.1.2 ends X.2.1) false (0 ||| X.2.2) first := by rw [rowF, hE2, hXX]; rfl
        refine WC.again (⟨k + 1, (X.1.1, linkL X.1.2 ends X.2.1), false, (0 ||| X.2.2), first, by omega, by rw [hrow, hdr, hrw], hXo.link hXf, (okS.zero _).or hXl, hf.mono hXm, by show X.1.1.length + _ ≤ 24; omega, rfl, h11, h10, rfl, rfl, h0, h4, rfl, Hd.arrT [_, _, _, _, _] [4, 0, 1] (by decide) rfl H⟩) (by show _ - _ < _ - _; rw [h12]; show ks.length - ((k : Int) + 1).toNat < ks.length - (k : Int).toNat; omega)
    ·
      refine WC.cond1 rfl ?_
      refine WC.region ?_
      refine l_rd rfl rfl (x_fieldAddr (k := 0) Tryz.underlying226 rfl rfl ty221 (by decide) h4) ?_
      refine l_rd rfl rfl (x_load Tryz.underlying221 rfl rfl (H.cellL 4 rfl rfl)) ?_
      refine l_rd rfl rfl (x_fieldAddr (k := 0) Tryz.underlying226 rfl rfl ty221 (by decide) rfl) ?_
      refine l_rd rfl rfl (x_load Tryz.underlying221 rfl rfl (H.cellL 2 rfl rfl)) ?_
      refine l_rd rfl rfl (x_orU rfl rfl (by have := hf.1; omega) (by have := hXf.1; omega)) ?_
      refine l_rd rfl rfl (x_fieldAddr (k := 0) Tryz.underlying226 rfl rfl ty221 (by decide) h4) ?_
      refine l_no (s_st 4 rfl ty221 rfl (by conv => lhs; whnf) rfl rfl H fun w H => ?_)
      refine WL.nil ?_
      refine WC.seq ?_
      refine WC.seq ?_
      refine WC.region ?_
      refine l_rd rfl rfl (x_loadF (vs := [_, _, _]) Tryz.underlying25 rfl ty25 rfl rfl (H.cellsL 3 rfl rfl)) ?_
      refine l_st rfl (s_callL cal61 (c61 _ (hxt.old (H.old 1 rfl))) ?_)
      rintro _ w ⟨rfl, e1⟩
      have H := H.ext e1
      refine l_rd rfl rfl (x_not rfl) ?_
      refine WL.nil ?_
      cases hE : !emptyE x
      ·
        refine WC.cond0 (by show Value.bool (!emptyE x) = _; rw [hE]) ?_
        refine WC.skip ?_
        refine WC.region ?_
        refine l_rd rfl rfl (x_move h6) ?_
        refine l_rd rfl rfl (x_fieldAddr (k := 1) Tryz.underlying226 rfl rfl ty221 (by decide) rfl) ?_
        refine l_rd rfl rfl (x_load Tryz.underlying221 rfl rfl (H.cellL 2 rfl rfl)) ?_
        refine l_rd rfl rfl (x_orU rfl rfl (by first | decide | omega | (have := he.1; omega)) (by have := hXl.1; omega)) ?_
        refine l_rd rfl rfl (x_assign (by conv => lhs; whnf)) ?_
        refine WL.nil ?_
        refine WC.region ?_
        refine l_rd rfl rfl (x_add h12 rfl (by omega) (by omega)) ?_
        refine l_rd rfl rfl (x_move (by conv => lhs; whnf)) ?_
        refine WL.nil ?_
        have hE2 : emptyE x = true := by cases h : emptyE x <;> simp_all
        have hrw : rowF (x :: ks.drop (k + 1)) st1 true ends first = rowF (ks.drop (k + 1)) (X.1.1, linkL X.1.2 ends X.2.1) true (ends ||| X.2.2) (first ||| X.2.1) := by rw [rowF, hE2, hXX]; rfl
        refine WC.again (⟨k + 1, (X.1.1, linkL X.1.2 ends X.2.1), true, (ends ||| X.2.2), (first ||| X.2.1), by omega, by rw [hrow, hdr, hrw], hXo.link hXf, (he.mono hXm).or hXl, (hf.mono hXm).or hXf, by show X.1.1.length + _ ≤ 24; omega, rfl, h11, h10, h5, rfl, h0, h4, rfl, Hd.arrT [_, _, _, _, _] [4, 0, 1] (by decide) rfl H⟩) (by show _ - _ < _ - _; rw [h12]; show ks.length - ((k : Int) + 1).toNat < ks.length - (k : Int).toNat; omega)
      ·
        refine WC.cond1 (by show Value.bool (!emptyE x) = _; rw [hE]) ?_
        refine WC.region ?_
        refine l_rd rfl rfl (x_assign ev_c) ?_
        refine l_rd rfl rfl (x_assign ev_c) ?_
        refine WL.nil ?_
        refine WC.region ?_
        refine l_rd rfl rfl (x_move (by conv => lhs; whnf)) ?_
        refine l_rd rfl rfl (x_fieldAddr (k := 1) Tryz.underlying226 rfl rfl ty221 (by decide) rfl) ?_
        refine l_rd rfl rfl (x_load Tryz.underlying221 rfl rfl (H.cellL 2 rfl rfl)) ?_
        refine l_rd rfl rfl (x_orU rfl rfl (by first | decide | omega | (have := he.1; omega)) (by have := hXl.1; omega)) ?_
        refine l_rd rfl rfl (x_assign (by conv => lhs; whnf)) ?_
        refine WL.nil ?_
        refine WC.region ?_
        refine l_rd rfl rfl (x_add h12 rfl (by omega) (by omega)) ?_
        refine l_rd rfl rfl (x_move (by conv => lhs; whnf)) ?_
        refine WL.nil ?_
        have hE2 : emptyE x = false := by cases h : emptyE x <;> simp_all
        have hrw : rowF (x :: ks.drop (k + 1)) st1 true ends first = rowF (ks.drop (k + 1)) (X.1.1, linkL X.1.2 ends X.2.1) false (0 ||| X.2.2) (first ||| X.2.1) := by rw [rowF, hE2, hXX]; rfl
        refine WC.again (⟨k + 1, (X.1.1, linkL X.1.2 ends X.2.1), false, (0 ||| X.2.2), (first ||| X.2.1), by omega, by rw [hrow, hdr, hrw], hXo.link hXf, (okS.zero _).or hXl, (hf.mono hXm).or hXf, by show X.1.1.length + _ ≤ 24; omega, rfl, h11, h10, rfl, rfl, h0, h4, rfl, Hd.arrT [_, _, _, _, _] [4, 0, 1] (by decide) rfl H⟩) (by show _ - _ < _ - _; rw [h12]; show ks.length - ((k : Int) + 1).toNat < ks.length - (k : Int).toNat; omega)
  ·
    refine WL.nil ?_
    refine WC.seq ?_
    refine WC.cond0 rfl ?_
    refine WC.exit ?_
    refine WC.seq ?_
    refine WC.region ?_
    refine l_rd rfl rfl (x_move h6) ?_
    refine l_rd rfl rfl (x_fieldAddr (k := 1) Tryz.underlying226 rfl rfl ty221 (by decide) h4) ?_
    refine l_no (s_st 0 rfl ty221 rfl (by conv => lhs; whnf) rfl rfl H fun w H => ?_)
    refine WL.nil ?_
    refine WC.seq ?_
    refine WC.region ?_
    refine l_rd rfl rfl (x_loadF (vs := [_, _]) Tryz.underlying226 rfl ty226 h4 rfl (H.cellsL 0 rfl rfl)) ?_
    refine l_no (s_stA 0 rfl ty226 h4 (by conv => lhs; whnf) rfl rfl rfl H fun w H => ?_)
    refine WL.nil ?_
    refine WC.ret ?_
    refine atRet ?_
    exact RetM.cell1A (vs := [_, _]) rfl h4 Tryz.underlying226 rfl ty226 rfl (H.cellsL 0 rfl rfl) (⟨by rw [hrow, List.drop_of_length_le (by omega), rowF], by rw [hrow, List.drop_of_length_le (by omega), rowF]; exact Hd.arrT [_, _, _] [1, 2] (by decide) rfl H⟩)
theorem partF_eq (t : Et) (st : Ns) : partF t st = if t.k = 1 then ((st.1 ++ [t.l], st.2), ofF (st.1.length + 1), ofF (st.1.length + 1))
    else if t.k = 2 then rowF t.ks st true 0 0
    else
      let r := kidsF t.ks st 0 0
      if t.k = 4 ∨ t.k = 5 then ((r.1.1, linkL r.1.2 r.2.2 r.2.1), r.2.1, r.2.2) else r := by
  cases t; rw [partF]; rfl
theorem leaves_eq (t : Et) : leaves t = if t.k = 1 then 1 else leavesL t.ks := by cases t; rw [leaves]; rfl
theorem c124 : ∀ (N : Nat) {t : Et} (hN : SizeOf.sizeOf t < N) {s : Sy} [NoEx s] {w0 : World} {n la : Nat} {em : Bool} {L : List Hp} (st : Ns) (w : World) (hT : TB w0) (ht : EtR w0 t) (hok : okN st) (hlv : st.1.length + leaves t ≤ 24) (H : Hd s w (nfP n st la em :: fr w0 :: L)), CC Tryz.prog 124 [.pointer (some ⟨n, 0, none⟩), .agg (etC t).toArray].toArray w (fun r w' => r = .agg #[U (partF t st).2.1, U (partF t st).2.2] ∧ Hd s w' (nfP n (partF t st).1 la em :: fr w0 :: L)) := by
  intro N
  induction N
  · intro t hN; exact absurd hN (by omega)
  rename_i N ih
  intro t hN s hs0 w0 n la em L st w hT ht hok hlv H
  obtain ⟨ks, hks⟩ : ∃ ks, ks = t.ks := ⟨_, rfl⟩
  have hr : RdS w0 t.v 3 etC ks := hks ▸ ht.rd
  obtain ⟨a, c, hv⟩ := hr.shape
  have hle := hr.le
  have hv2 := hv
  rw [hks] at hv2
  refine CC.of (N := 77) Tryz.func124 rfl rfl rfl ?_
  refine WC.seq ?_
  refine WC.region ?_
  refine l_st rfl (s_box (by conv => lhs; whnf) H fun b3 w H => ?_)
  refine l_st rfl (s_alloc ty226 H fun b4 w H => ?_)
  refine WL.nil ?_
  refine WC.seq ?_
  refine WC.seq ?_
  refine WC.region ?_
  refine l_rd rfl rfl (x_fieldAddr (k := 0) Tryz.underlying25 rfl rfl ty22 (by decide) rfl) ?_
  refine l_rd rfl rfl (x_load Tryz.underlying22 rfl rfl (H.cellL 1 rfl rfl)) ?_
  refine WL.nil ?_
  refine WC.block ?_
  refine WC.seq ?_
  refine WC.region ?_
  refine l_rdD rfl rfl (x_eql rfl rfl) (fun h12 => ?_) (fun h12 => ?_)
  ·
    refine l_rd rfl rfl (x_assign (by conv => lhs; whnf)) ?_
    refine WL.nil ?_
    refine WC.cond1 rfl ?_
    refine WC.seq ?_
    obtain ⟨v0, -, H⟩ := PX.opn (Hd.arrT [_, _, _, _] [2, 0, 1, 3] (by decide) rfl H)
    obtain ⟨va, vc, rfl⟩ := (show Hd _ _ (_ :: Sl v0 9 1 st.1.length (st.1.map S) :: _) from H).sl 1 rfl |>.shape
    have hl24 : st.1.length + 1 ≤ 24 := by rw [leaves_eq, if_pos h12] at hlv; exact hlv
    refine WC.draw mixed [7, 8, 11] [[], [], [1], [1, 2], [1, 2, 3], [], [5], [5, 6], [1, 2, 3, 4, 5, 6, 7], [0, 1, 2, 3, 4, 5, 6, 7, 8], [0, 1, 2, 3, 4, 5, 6, 7, 8, 9], [0, 1, 2, 3, 4, 5, 6, 7, 8, 9, 10]] [0, 1, 2, 3, 4, 5, 6, 7, 8, 9, 10, 11] (by kernel_rfl) ?_
    have H := H.drew
    refine k_rd rfl rfl (RS.of rfl rfl (x_move (by conv => lhs; whnf))) ?_
    refine k_rd rfl rfl (RS.of rfl rfl (x_move (by conv => lhs; whnf))) ?_
    refine k_rd rfl rfl (RS.of rfl rfl (x_nilCheck rfl)) ?_
    refine k_rd rfl rfl (RS.of rfl rfl (x_fieldAddr (k := 0) Tryz.underlying224 rfl rfl ty103 (by decide) rfl)) ?_
    refine k_rd rfl rfl (RS.of rfl rfl (x_load Tryz.underlying103 rfl rfl (H.cellL 0 rfl rfl))) ?_
    refine k_rd rfl rfl (RS.of rfl rfl (x_fieldAddr (k := 1) Tryz.underlying25 rfl rfl ty9 (by decide) rfl)) ?_
    refine k_rd rfl rfl (RS.of rfl rfl (x_load Tryz.underlying9 rfl rfl (H.cellL 3 rfl rfl))) ?_
    refine k_st rfl rfl rfl (s_build1 Tryz.underlying103 ty9 rfl (by conv => lhs; whnf) rfl H fun b20 w H => ⟨⟨trivial, ⟨trivial, ⟨RS.of rfl rfl (x_load Tryz.underlying103 rfl rfl (H.cellL 1 rfl rfl)), ⟨RS.of rfl rfl (x_fieldAddr (k := 0) Tryz.underlying224 rfl rfl ty103 (by decide) rfl), ⟨RS.of rfl rfl (x_nilCheck rfl), ⟨RS.of rfl rfl (x_move (by (conv => lhs; whnf); try rfl)), ⟨RS.of rfl rfl (x_move (by (conv => lhs; whnf); try rfl)), trivial⟩⟩⟩⟩⟩⟩⟩, ?_⟩)
    refine k_st rfl rfl rfl (s_append Tryz.underlying103 ty9 rfl (by decide) (by decide) rfl 2 rfl rfl rfl (H.sl 0 rfl) (by simp [Value.oneCell']) (by omega) H fun v21 w H => ⟨⟨trivial, ⟨trivial, ⟨trivial, ⟨trivial, ⟨trivial, ⟨trivial, ⟨RS.of rfl rfl (x_move (by (conv => lhs; whnf); try rfl)), trivial⟩⟩⟩⟩⟩⟩⟩, ?_⟩)
    obtain ⟨a21, c21, rfl⟩ := (H.sl 2 rfl).shape
    refine k_rd rfl rfl (RS.of rfl rfl (x_nilCheck rfl)) ?_
    refine k_rd rfl rfl (RS.of rfl rfl (x_fieldAddr (k := 0) Tryz.underlying224 rfl rfl ty103 (by decide) rfl)) ?_
    refine k_no rfl rfl rfl (s_st 1 rfl ty103 rfl (by conv => lhs; whnf) rfl rfl H fun w H => ⟨⟨trivial, ⟨trivial, ⟨trivial, ⟨trivial, ⟨trivial, ⟨trivial, ⟨trivial, ⟨trivial, ⟨trivial, trivial⟩⟩⟩⟩⟩⟩⟩⟩⟩, ?_⟩)
    show _
    refine WC.seq ?_
    refine WC.region ?_
    refine l_rd rfl rfl (x_move (by conv => lhs; whnf)) ?_
    refine l_rd rfl rfl (x_nilCheck rfl) ?_
    refine l_rd rfl rfl (x_fieldAddr (k := 0) Tryz.underlying224 rfl rfl ty103 (by decide) rfl) ?_
    refine l_rd rfl rfl (x_load Tryz.underlying103 rfl rfl (H.cellL 1 rfl rfl)) ?_
    refine l_rd rfl rfl (x_lenSlice Tryz.underlying103 rfl rfl) ?_
    refine l_st rfl (s_callL cal176 (c176 (p := st.1.length + 1) _) ?_)
    rintro _ w ⟨rfl, e1⟩
    have H := H.ext e1
    refine l_rd rfl rfl (x_assign (by conv => lhs; whnf)) ?_
    refine WL.nil ?_
    refine WC.seq ?_
    refine WC.region ?_
    refine l_rd rfl rfl (x_move (by conv => lhs; whnf)) ?_
    refine l_rd rfl rfl (x_move (by conv => lhs; whnf)) ?_
    refine l_rd rfl rfl (x_buildL (pl := [(0, 1), (1, 1)]) (cells := [U (ofF (st.1.length + 1)), U (ofF (st.1.length + 1))]) Tryz.underlying226 ty226 (by kernel_rfl) rfl) ?_
    refine l_no (s_stA 3 rfl ty226 rfl (by conv => lhs; whnf) rfl rfl rfl H fun w H => ?_)
    refine WL.nil ?_
    refine WC.ret ?_
    refine atRet ?_
    exact RetM.cell1A (vs := [_, _]) rfl (by (conv => lhs; whnf); try rfl) Tryz.underlying226 rfl ty226 rfl (H.cellsL 3 rfl rfl) (⟨by rw [partF_eq, if_pos h12], by rw [partF_eq, if_pos h12]; exact PX.mk (A := nfA n (st.1 ++ [t.l], st.2) la em) _ trivial (by show Hd _ _ (_ :: Sl _ 9 1 (st.1 ++ [t.l]).length ((st.1 ++ [t.l]).map S) :: _); rw [List.map_append, len_snoc]; exact Hd.arrT [_, _, _, _, _, _] [1, 2, 5] (by decide) rfl H)⟩)
  ·
    have hlv : st.1.length + leavesL t.ks ≤ 24 := by rw [leaves_eq, if_neg h12] at hlv; exact hlv
    refine l_rd rfl rfl (x_assign (by conv => lhs; whnf)) ?_
    refine WL.nil ?_
    refine WC.cond0 rfl ?_
    refine WC.seq ?_
    refine WC.region ?_
    refine l_rdD rfl rfl (x_eql rfl rfl) (fun h34 => ?_) (fun h34 => ?_)
    ·
      refine l_rd rfl rfl (x_assign (by conv => lhs; whnf)) ?_
      refine WL.nil ?_
      refine WC.cond1 rfl ?_
      refine WC.seq ?_
      refine WC.region ?_
      refine l_rd rfl rfl (x_move (by conv => lhs; whnf)) ?_
      refine l_rd rfl rfl (x_fieldAddr (k := 2) Tryz.underlying25 rfl rfl ty23 (by decide) rfl) ?_
      refine l_rd rfl rfl (x_load Tryz.underlying23 rfl rfl (H.cellL 1 rfl rfl)) ?_
      refine l_st rfl (s_callL cal177 (c177 _ hT ht.rd (fun x hx => ht.kid hx) hok hlv (fun x hx {s} [_] {L} st w h1 h2 h3 => ih (by have := et_lt hx; omega) st w hT (ht.kid hx) h1 h2 h3) (Hd.arrT [_, _, _, _] [2, 3, 0, 1] (by decide) rfl H)) ?_)
      rintro _ w ⟨rfl, H⟩
      refine l_no (s_stA 2 rfl ty226 rfl (by conv => lhs; whnf) rfl rfl rfl H fun w H => ?_)
      refine WL.nil ?_
      refine WC.ret ?_
      refine atRet ?_
      exact RetM.cell1A (vs := [_, _]) rfl (by (conv => lhs; whnf); try rfl) Tryz.underlying226 rfl ty226 rfl (H.cellsL 2 rfl rfl) (⟨by rw [partF_eq, if_neg h12, if_pos h34], by rw [partF_eq, if_neg h12, if_pos h34]; exact Hd.arrT [_, _, _, _] [0, 1] (by decide) rfl H⟩)
    ·
      refine l_rd rfl rfl (x_assign (by conv => lhs; whnf)) ?_
      refine WL.nil ?_
      refine WC.cond0 rfl ?_
      refine WC.skip ?_
      refine WC.seq ?_
      refine WC.seq ?_
      refine WC.region ?_
      refine l_rd rfl rfl (x_fieldAddr (k := 2) Tryz.underlying25 rfl rfl ty23 (by decide) rfl) ?_
      refine l_rd rfl rfl (x_load Tryz.underlying23 rfl rfl (H.cellL 1 rfl rfl)) ?_
      refine l_rd rfl rfl (x_lenSlice Tryz.underlying23 rfl hv) ?_
      refine l_rd rfl rfl (x_move ev_c) ?_
      refine WL.nil ?_
      refine WC.block ?_
      refine WC.loop (fun ρ ds w => ∃ (k : Nat) (st1 : Ns) (f1 l1 : Nat), k ≤ ks.length ∧ kidsF t.ks st 0 0 = kidsF (ks.drop k) st1 f1 l1 ∧ okN st1 ∧ okS st1.1.length l1 ∧ okS st1.1.length f1 ∧ st1.1.length + leavesL (ks.drop k) ≤ 24 ∧ ρ 42 = I k ∧ ρ 41 = I ks.length ∧ ρ 40 = .slice a ks.length c ∧ ρ 0 = .pointer (some ⟨n, 0, none⟩) ∧ ρ 4 = .pointer (some ⟨b4, 0, none⟩) ∧ ρ 3 = .pointer (some ⟨b3, 0, none⟩) ∧ ds = [] ∧ Hd s w (pt b4 (.cells #[U f1, U l1] 226 (0, 0)) :: nfP n st1 la em :: pt b3 (.cells (etC t).toArray 25 (0, 0)) :: fr w0 :: L)) (fun ρ w => ks.length - (match ρ 42 with | .int _ k => k.toNat | _ => 0)) (⟨0, st, 0, 0, Nat.zero_le _, by rw [hks]; rfl, hok, okS.zero _, okS.zero _, by rw [hks]; exact hlv, rfl, rfl, hv, rfl, rfl, rfl, rfl, Hd.arrT [_, _, _] [0, 2, 1] (by decide) rfl H⟩) ?_
      repeat clear H
      rintro ρ ds w ⟨k, st1, f1, l1, hk1, hrow, ho1, ho2, ho3, hl1, h42, h41, h40, h0, h4, h3, rfl, H⟩
      refine WC.seq ?_
      refine WC.region ?_
      refine l_rdD rfl rfl (x_lss h42 h41) (fun h43 => ?_) (fun h43 => ?_)
      ·
        refine WL.nil ?_
        refine WC.seq ?_
        refine WC.cond1 rfl ?_
        refine WC.skip ?_
        refine WC.seq ?_
        refine WC.block ?_
        refine WC.seq ?_
        obtain ⟨x, hxk⟩ := lt_get (show k < ks.length by omega)
        obtain ⟨b1, o1, rfl, hc1⟩ := (show RdS w0 (.slice a ks.length c) 3 etC ks from hv ▸ hr).el etC_len hxk
        have hxm : x ∈ t.ks := hks ▸ List.mem_of_getElem? hxk
        have hxt := ht.kid hxm
        have hdr := drop_at hxk
        rw [hdr, leavesL] at hl1
        have hX := partF_ok x st1 ho1 (by omega)
        refine WC.region ?_
        refine l_rd rfl rfl (x_indexAddr Tryz.underlying23 ty25 h40 h42 (by omega) (by omega)) ?_
        refine l_rd rfl rfl (x_loadF (vs := [_, _, _]) Tryz.underlying25 rfl ty25 rfl rfl (sub_row 0 (fun j u hj => (H.old 3 rfl).cell (hc1 j u hj)) rfl)) ?_
        refine l_st rfl (s_alloc ty25 H fun b7 w H => ?_)
        refine l_no (s_stA 0 rfl ty25 rfl (by conv => lhs; whnf) rfl (etC_one hxt) rfl H (fun w H => ?_))
        refine WL.nil ?_
        refine WC.seq ?_
        refine WC.region ?_
        refine l_rd rfl rfl (x_move h0) ?_
        refine l_rd rfl rfl (x_loadF (vs := [_, _, _]) Tryz.underlying25 rfl ty25 rfl rfl (H.cellsL 0 rfl rfl)) ?_
        refine l_st rfl (s_callL cal124 (ih (by have := et_lt hxm; omega) st1 _ hT hxt ho1 (by omega) (Hd.arrT [_, _, _, _, _] [2, 4, 0, 1, 3] (by decide) rfl H)) ?_)
        rintro _ w ⟨rfl, H⟩
        generalize hXX : partF x st1 = X at H hX
        obtain ⟨hXo, hXf, hXl, hXn⟩ := hX
        have hXm : st1.1.length ≤ X.1.1.length := by omega
        refine l_st rfl (s_alloc ty226 H fun b8 w H => ?_)
        refine l_no (s_stA 0 rfl ty226 rfl (by conv => lhs; whnf) rfl rfl rfl H fun w H => ?_)
        refine WL.nil ?_
        refine WC.draw mixed [11, 13] [[], [0], [], [2], [0, 1, 2, 3], [], [5], [], [7], [5, 6, 7, 8], [0, 1, 2, 3, 4, 5, 6], [0, 1, 2, 3, 4, 5, 6, 10], [0, 1, 2, 3, 4, 5, 6, 7, 8, 9, 10, 11], [0, 1, 2, 3, 4, 5, 6, 7, 8, 9, 10, 11, 12]] [0, 1, 2, 3, 4, 5, 6, 7, 8, 9, 10, 11, 12, 13] (by kernel_rfl) ?_
        have H := H.drew
        refine k_rd rfl rfl (RS.of rfl rfl (x_fieldAddr (k := 0) Tryz.underlying226 rfl rfl ty221 (by decide) h4)) ?_
        refine k_rd rfl rfl (RS.of rfl rfl (x_load Tryz.underlying221 rfl rfl (H.cellL 4 rfl rfl))) ?_
        refine k_rd rfl rfl (RS.of rfl rfl (x_fieldAddr (k := 0) Tryz.underlying226 rfl rfl ty221 (by decide) rfl)) ?_
        refine k_rd rfl rfl (RS.of rfl rfl (x_load Tryz.underlying221 rfl rfl (H.cellL 0 rfl rfl))) ?_
        refine k_rd rfl rfl (RS.of rfl rfl (x_orU rfl rfl (by have := ho3.1; omega) (by have := hXf.1; omega))) ?_
        refine k_rd rfl rfl (RS.of rfl rfl (x_fieldAddr (k := 1) Tryz.underlying226 rfl rfl ty221 (by decide) h4)) ?_
        refine k_rd rfl rfl (RS.of rfl rfl (x_load Tryz.underlying221 rfl rfl (H.cellL 4 rfl rfl))) ?_
        refine k_rd rfl rfl (RS.of rfl rfl (x_fieldAddr (k := 1) Tryz.underlying226 rfl rfl ty221 (by decide) rfl)) ?_
        refine k_rd rfl rfl (RS.of rfl rfl (x_load Tryz.underlying221 rfl rfl (H.cellL 0 rfl rfl))) ?_
        refine k_rd rfl rfl (RS.of rfl rfl (x_orU rfl rfl (by have := ho2.1; omega) (by have := hXl.1; omega))) ?_
        refine k_rd rfl rfl (RS.of rfl rfl (x_fieldAddr (k := 0) Tryz.underlying226 rfl rfl ty221 (by decide) h4)) ?_
        refine k_no rfl rfl rfl (s_st 4 rfl ty221 rfl (by conv => lhs; whnf) rfl rfl H fun w H => ⟨⟨trivial, ⟨RS.of rfl rfl (x_orU rfl rfl (by have := ho2.1; omega) (by have := hXl.1; omega)), ⟨RS.of rfl rfl (x_load Tryz.underlying221 rfl rfl (H.cellL 0 rfl rfl)), ⟨RS.of rfl rfl (x_fieldAddr (k := 1) Tryz.underlying226 rfl rfl ty221 (by decide) rfl), ⟨trivial, ⟨trivial, ⟨trivial, ⟨trivial, ⟨trivial, ⟨trivial, ⟨trivial, trivial⟩⟩⟩⟩⟩⟩⟩⟩⟩⟩⟩, ?_⟩)
        refine k_rd rfl rfl (RS.of rfl rfl (x_fieldAddr (k := 1) Tryz.underlying226 rfl rfl ty221 (by decide) h4)) ?_
        refine k_no rfl rfl rfl (s_st 4 rfl ty221 rfl (by conv => lhs; whnf) rfl rfl H fun w H => ⟨⟨trivial, ⟨trivial, ⟨trivial, ⟨trivial, ⟨trivial, ⟨trivial, ⟨trivial, ⟨trivial, ⟨trivial, ⟨trivial, ⟨trivial, ⟨trivial, trivial⟩⟩⟩⟩⟩⟩⟩⟩⟩⟩⟩⟩, ?_⟩)
        show _
        refine WC.region ?_
        refine l_rd rfl rfl (x_add h42 rfl (by omega) (by omega)) ?_
        refine l_rd rfl rfl (x_move (by conv => lhs; whnf)) ?_
        refine WL.nil ?_
        have hrw : kidsF (x :: ks.drop (k + 1)) st1 f1 l1 = kidsF (ks.drop (k + 1)) X.1 (f1 ||| X.2.1) (l1 ||| X.2.2) := by rw [kidsF, hXX]
        refine WC.again (⟨k + 1, X.1, f1 ||| X.2.1, l1 ||| X.2.2, by omega, by rw [hrow, hdr, hrw], hXo, (ho2.mono hXm).or hXl, (ho3.mono hXm).or hXf, by omega, rfl, h41, h40, h0, h4, h3, rfl, Hd.arrT [_, _, _, _, _, _] [4, 1, 5, 2] (by decide) rfl H⟩) (by show _ - _ < _ - _; rw [h42]; show ks.length - ((k : Int) + 1).toNat < ks.length - (k : Int).toNat; omega)
      ·
        refine WL.nil ?_
        refine WC.seq ?_
        refine WC.cond0 rfl ?_
        refine WC.exit ?_
        refine WC.seq ?_
        refine WC.seq ?_
        refine WC.region ?_
        refine l_rd rfl rfl (x_fieldAddr (k := 0) Tryz.underlying25 rfl rfl ty22 (by decide) h3) ?_
        refine l_rd rfl rfl (x_load Tryz.underlying22 rfl rfl (H.cellL 2 rfl rfl)) ?_
        refine l_rdD rfl rfl (x_eql rfl rfl) (fun h64 => ?_) (fun h64 => ?_)
        ·
          have h45 : t.k = 4 ∨ t.k = 5 := .inl h64
          refine l_rd rfl rfl (x_move (by conv => lhs; whnf)) ?_
          refine l_gn (wantN rfl rfl rfl) rfl ?_
          refine l_gn (wantN rfl rfl rfl) rfl ?_
          refine l_gn (wantN rfl rfl rfl) rfl ?_
          refine l_rd rfl rfl (x_pick1 rfl ev_c) ?_
          refine WL.nil ?_
          refine WC.cond1 rfl ?_
          refine WC.region ?_
          refine l_rd rfl rfl (x_move h0) ?_
          refine l_rd rfl rfl (x_fieldAddr (k := 1) Tryz.underlying226 rfl rfl ty221 (by decide) h4) ?_
          refine l_rd rfl rfl (x_load Tryz.underlying221 rfl rfl (H.cellL 0 rfl rfl)) ?_
          refine l_rd rfl rfl (x_fieldAddr (k := 0) Tryz.underlying226 rfl rfl ty221 (by decide) h4) ?_
          refine l_rd rfl rfl (x_load Tryz.underlying221 rfl rfl (H.cellL 0 rfl rfl)) ?_
          obtain ⟨v1, -, H⟩ := PX.opn (Hd.arrT [_, _, _, _] [1, 0, 2, 3] (by decide) rfl H)
          refine l_st rfl (s_callL cal178 (c178 _ hT ho2.1 ho3 ⟨ho1.1, ho1.2.2⟩ (Hd.arrT [_, _, _, _, _] [0, 4, 1, 2, 3] (by decide) rfl H)) ?_)
          rintro _ w H
          have H := PX.mk (α := Value) (φ := fun _ => True) (A := nfA n (st1.1, linkL st1.2 l1 f1) la em) v1 trivial (Hd.arrT [_, _, _, _, _] [0, 2, 1, 3, 4] (by decide) rfl H)
          refine WL.nil ?_
          refine WC.seq ?_
          refine WC.region ?_
          refine l_rd rfl rfl (x_loadF (vs := [_, _]) Tryz.underlying226 rfl ty226 h4 rfl (H.cellsL 2 rfl rfl)) ?_
          refine l_no (s_stA 2 rfl ty226 h4 (by conv => lhs; whnf) rfl rfl rfl H fun w H => ?_)
          refine WL.nil ?_
          refine WC.ret ?_
          refine atRet ?_
          exact RetM.cell1A (vs := [_, _]) rfl h4 Tryz.underlying226 rfl ty226 rfl (H.cellsL 2 rfl rfl) (⟨by rw [partF_eq, if_neg h12, if_neg h34, hrow, List.drop_of_length_le (show ks.length ≤ k by omega), kidsF]; simp only []; rw [if_pos h45], by rw [partF_eq, if_neg h12, if_neg h34, hrow, List.drop_of_length_le (show ks.length ≤ k by omega), kidsF]; simp only []; rw [if_pos h45]; exact Hd.arrT [_, _, _, _] [0, 1] (by decide) rfl H⟩)
        ·
          refine l_rd rfl rfl (x_move (by conv => lhs; whnf)) ?_
          refine l_gy (wantY rfl rfl rfl) rfl rfl (x_fieldAddr (k := 0) Tryz.underlying25 rfl rfl ty22 (by decide) h3) ?_
          refine l_gy (wantY rfl rfl rfl) rfl rfl (x_load Tryz.underlying22 rfl rfl (H.cellL 2 rfl rfl)) ?_
          refine l_gyD (wantY rfl rfl rfl) rfl rfl (x_eql rfl rfl) (fun h68 => ?_) (fun h68 => ?_)
          ·
            have h45 : t.k = 4 ∨ t.k = 5 := .inr h68
            refine l_rd rfl rfl (x_pick0 rfl (by conv => lhs; whnf)) ?_
            refine WL.nil ?_
            refine WC.cond1 rfl ?_
            refine WC.region ?_
            refine l_rd rfl rfl (x_move h0) ?_
            refine l_rd rfl rfl (x_fieldAddr (k := 1) Tryz.underlying226 rfl rfl ty221 (by decide) h4) ?_
            refine l_rd rfl rfl (x_load Tryz.underlying221 rfl rfl (H.cellL 0 rfl rfl)) ?_
            refine l_rd rfl rfl (x_fieldAddr (k := 0) Tryz.underlying226 rfl rfl ty221 (by decide) h4) ?_
            refine l_rd rfl rfl (x_load Tryz.underlying221 rfl rfl (H.cellL 0 rfl rfl)) ?_
            obtain ⟨v1, -, H⟩ := PX.opn (Hd.arrT [_, _, _, _] [1, 0, 2, 3] (by decide) rfl H)
            refine l_st rfl (s_callL cal178 (c178 _ hT ho2.1 ho3 ⟨ho1.1, ho1.2.2⟩ (Hd.arrT [_, _, _, _, _] [0, 4, 1, 2, 3] (by decide) rfl H)) ?_)
            rintro _ w H
            have H := PX.mk (α := Value) (φ := fun _ => True) (A := nfA n (st1.1, linkL st1.2 l1 f1) la em) v1 trivial (Hd.arrT [_, _, _, _, _] [0, 2, 1, 3, 4] (by decide) rfl H)
            refine WL.nil ?_
            refine WC.seq ?_
            refine WC.region ?_
            refine l_rd rfl rfl (x_loadF (vs := [_, _]) Tryz.underlying226 rfl ty226 h4 rfl (H.cellsL 2 rfl rfl)) ?_
            refine l_no (s_stA 2 rfl ty226 h4 (by conv => lhs; whnf) rfl rfl rfl H fun w H => ?_)
            refine WL.nil ?_
            refine WC.ret ?_
            refine atRet ?_
            exact RetM.cell1A (vs := [_, _]) rfl h4 Tryz.underlying226 rfl ty226 rfl (H.cellsL 2 rfl rfl) (⟨by rw [partF_eq, if_neg h12, if_neg h34, hrow, List.drop_of_length_le (show ks.length ≤ k by omega), kidsF]; simp only []; rw [if_pos h45], by rw [partF_eq, if_neg h12, if_neg h34, hrow, List.drop_of_length_le (show ks.length ≤ k by omega), kidsF]; simp only []; rw [if_pos h45]; exact Hd.arrT [_, _, _, _] [0, 1] (by decide) rfl H⟩)
          ·
            have h45 : ¬ (t.k = 4 ∨ t.k = 5) := fun q => q.elim h64 h68
            refine l_rd rfl rfl (x_pick0 rfl (by conv => lhs; whnf)) ?_
            refine WL.nil ?_
            refine WC.cond0 rfl ?_
            refine WC.skip ?_
            refine WC.seq ?_
            refine WC.region ?_
            refine l_rd rfl rfl (x_loadF (vs := [_, _]) Tryz.underlying226 rfl ty226 h4 rfl (H.cellsL 0 rfl rfl)) ?_
            refine l_no (s_stA 0 rfl ty226 h4 (by conv => lhs; whnf) rfl rfl rfl H fun w H => ?_)
            refine WL.nil ?_
            refine WC.ret ?_
            refine atRet ?_
            exact RetM.cell1A (vs := [_, _]) rfl h4 Tryz.underlying226 rfl ty226 rfl (H.cellsL 0 rfl rfl) (⟨by rw [partF_eq, if_neg h12, if_neg h34, hrow, List.drop_of_length_le (show ks.length ≤ k by omega), kidsF]; simp only []; rw [if_neg h45], by rw [partF_eq, if_neg h12, if_neg h34, hrow, List.drop_of_length_le (show ks.length ≤ k by omega), kidsF]; simp only []; rw [if_neg h45]; exact Hd.arrT [_, _, _, _] [1, 3] (by decide) rfl H⟩)
theorem ty224 : Ty Tryz.prog 224 (.agg #[(.slice none 0 0), (.int .u32 0), (.int .u32 0), (.int .u32 0), (.int .u32 0), (.int .u32 0), (.int .u32 0), (.int .u32 0), (.int .u32 0), (.int .u32 0), (.int .u32 0), (.int .u32 0), (.int .u32 0), (.int .u32 0), (.int .u32 0), (.int .u32 0), (.int .u32 0), (.int .u32 0), (.int .u32 0), (.int .u32 0), (.int .u32 0), (.int .u32 0), (.int .u32 0), (.int .u32 0), (.int .u32 0), (.int .u32 0), (.int .u32 0), (.bool false)]) 28 136 := Ty.of (by kernel_rfl)
noncomputable def nfaT (t : Et) : Ns × Nat := (((partF t ([], List.replicate 25 0)).1.1, (partF t ([], List.replicate 25 0)).1.2.set 0 (partF t ([], List.replicate 25 0)).2.1), (partF t ([], List.replicate 25 0)).2.2)
theorem okN_nil : okN ([], List.replicate 25 0) := ⟨rfl, by decide, fun i x h => by
  rw [List.getElem?_replicate] at h
  split at h
  · cases h; exact okS.zero _
  · cases h⟩
theorem nfaC_bltL {v : Value} {fl : List Nat} {la : Nat} {em : Bool} (h : fl.length = 25) : Nat.blt (0 + 26) (nfaC v fl la em).toArray.toList.length = true := by
  have : (nfaC v fl la em).toArray.toList.length = fl.length + 3 := nfaC_len
  rw [this, h]; rfl
theorem nfaC_setL {v : Value} {fl : List Nat} {la x : Nat} {em : Bool} (h : fl.length = 25) : (nfaC v fl la em).toArray.toList.set (0 + 26) (U x) = nfaC v fl x em := by
  show (v :: (fl.map U ++ [U la, .bool em])).set (25 + 1) (U x) = _
  rw [List.set_cons_succ, List.set_append_right _ _ (by simp [h])]
  simp [h, nfaC]
theorem nfaT_ok {t : Et} (h : rightT t) : okN (nfaT t).1 ∧ okS (nfaT t).1.1.length (nfaT t).2 := by
  have hX := partF_ok t ([], List.replicate 25 0) okN_nil (by have := leaves_le t; have := h.1; show 0 + _ ≤ 24; omega)
  obtain ⟨h1, h2, h3, h4⟩ := hX
  refine ⟨⟨by show (List.set _ _ _).length = 25; rw [List.length_set]; exact h1.1, h1.2.1, fun i x hx => ?_⟩, h3⟩
  have hx : ((partF t ([], List.replicate 25 0)).1.2.set 0 (partF t ([], List.replicate 25 0)).2.1)[i]? = some x := hx
  rw [List.getElem?_set] at hx
  split at hx
  · split at hx
    · cases hx; exact h2
    · cases hx
  · exact h1.2.2 i x hx
theorem c65 {s : Sy} [NoEx s] {L : List Hp} {w0 : World} {t : Et} (w : World) (hT : TB w0) (ht : EtR w0 t) (H : Hd s w (fr w0 :: L)) : CC Tryz.prog 65 [.agg (etC t).toArray].toArray w (fun r w' => (¬ rightT t ∧ r = .tuple #[.pointer none, I 2] ∧ Hd s w' (fr w0 :: L)) ∨ (rightT t ∧ ∃ n : Nat, r = .tuple #[.pointer (some ⟨n, 0, none⟩), I 0] ∧ Hd s w' (nfP n (nfaT t).1 (nfaT t).2 (emptyE t) :: fr w0 :: L))) := by
  refine CC.of (N := 28) Tryz.func65 rfl rfl rfl ?_
  refine WC.seq ?_
  refine WC.region ?_
  refine l_st rfl (s_box (by conv => lhs; whnf) H fun b1 w H => ?_)
  refine l_rd rfl rfl (x_assign ev_c) ?_
  refine l_rd rfl rfl (x_assign ev_c) ?_
  refine WL.nil ?_
  refine WC.seq ?_
  refine WC.seq ?_
  refine WC.region ?_
  refine l_rd rfl rfl (x_loadF (vs := [_, _, _]) Tryz.underlying25 rfl ty25 rfl rfl (H.cellsL 0 rfl rfl)) ?_
  refine l_st rfl (s_callL cal110 (c110 _ (ht.old (H.old 1 rfl))) ?_)
  rintro r w ⟨hr1, e1⟩
  have H := H.ext e1
  by_cases h7 : rightT t
  ·
    obtain rfl : r = .bool true := by rw [hr1, decide_eq_true h7]
    refine l_rd rfl rfl (x_not rfl) ?_
    refine WL.nil ?_
    refine WC.cond0 rfl ?_
    refine WC.skip ?_
    refine WC.seq ?_
    refine WC.region ?_
    refine l_rd rfl rfl (x_loadF (vs := [_, _, _]) Tryz.underlying25 rfl ty25 rfl rfl (H.cellsL 0 rfl rfl)) ?_
    refine l_st rfl (s_callL cal61 (c61 _ (ht.old (H.old 1 rfl))) ?_)
    rintro _ w ⟨rfl, e1⟩
    have H := H.ext e1
    refine l_rd rfl rfl (x_buildL (pl := [(0, 1), (1, 25), (26, 1), (27, 1)]) (cells := nfaC (.slice none 0 0) (List.replicate 25 0) 0 (emptyE t)) Tryz.underlying224 ty224 (by kernel_rfl) rfl) ?_
    refine l_st rfl (s_box (by conv => lhs; whnf) H fun b12 w H => ?_)
    refine l_rd rfl rfl (x_assign (by conv => lhs; whnf)) ?_
    refine WL.nil ?_
    refine WC.seq ?_
    have hle := Nat.le_trans (leaves_le t) h7.1
    have hok0 : okN ([], List.replicate 25 0) := okN_nil
    have hX := partF_ok t ([], List.replicate 25 0) hok0 (by simpa using hle)
    obtain ⟨n, hn⟩ : ∃ n, n = b12 := ⟨_, rfl⟩
    subst hn
    have H := PX.mk (α := Value) (φ := fun _ => True) (A := nfA n ([], List.replicate 25 0) 0 (emptyE t)) (.slice none 0 0) trivial (Hd.arrT [_, _, _, _] [1, 0, 3, 2] (by decide) rfl (Hd.nil H 9 1))
    refine WC.region ?_
    refine l_rd rfl rfl (x_move (by conv => lhs; whnf)) ?_
    refine l_rd rfl rfl (x_loadF (vs := [_, _, _]) Tryz.underlying25 rfl ty25 rfl rfl (H.cellsL 2 rfl rfl)) ?_
    refine l_st rfl (s_callL cal124 (c124 _ (Nat.lt_succ_self _) ([], List.replicate 25 0) _ hT ht hok0 (by simpa using hle) (Hd.arrT [_, _, _] [0, 1, 2] (by decide) rfl H)) ?_)
    rintro _ w ⟨rfl, H⟩
    refine l_st rfl (s_alloc ty226 H fun b5 w H => ?_)
    refine l_no (s_stA 0 rfl ty226 rfl (by conv => lhs; whnf) rfl rfl rfl H fun w H => ?_)
    refine WL.nil ?_
    refine WC.seq ?_
    generalize hXX : partF t ([], List.replicate 25 0) = X at H hX
    obtain ⟨hXo, hXf, hXl, hXn⟩ := hX
    obtain ⟨v1, -, H⟩ := PX.opn (Hd.arrT [_, _, _, _] [1, 0, 2, 3] (by decide) rfl H)
    refine WC.draw mixed [9, 12] [[], [], [], [2], [], [4], [0], [0, 6], [0, 2, 3, 6, 7], [0, 2, 3, 6, 7, 8], [0, 1, 2, 3, 4, 5, 6, 7, 8, 9], [0, 1, 2, 3, 4, 5, 6, 7, 8, 9, 10], [0, 1, 2, 3, 4, 5, 6, 7, 8, 9, 10, 11]] [0, 1, 2, 3, 4, 5, 6, 7, 8, 9, 10, 11, 12] (by kernel_rfl) ?_
    have H := H.drew
    refine k_rd rfl rfl (RS.of rfl rfl (x_move (by conv => lhs; whnf))) ?_
    refine k_rd rfl rfl (RS.of rfl rfl (x_move (by conv => lhs; whnf))) ?_
    refine k_rd rfl rfl (RS.of rfl rfl (x_fieldAddr (k := 0) Tryz.underlying226 rfl rfl ty221 (by decide) rfl)) ?_
    refine k_rd rfl rfl (RS.of rfl rfl (x_load Tryz.underlying221 rfl rfl (H.cellL 2 rfl rfl))) ?_
    refine k_rd rfl rfl (RS.of rfl rfl (x_fieldAddr (k := 1) Tryz.underlying226 rfl rfl ty221 (by decide) rfl)) ?_
    refine k_rd rfl rfl (RS.of rfl rfl (x_load Tryz.underlying221 rfl rfl (H.cellL 2 rfl rfl))) ?_
    refine k_rd rfl rfl (RS.of rfl rfl (x_nilCheck rfl)) ?_
    refine k_rd rfl rfl (RS.of rfl rfl (x_fieldAddr (k := 1) Tryz.underlying224 rfl rfl ty222 (by decide) rfl)) ?_
    refine k_rd rfl rfl (RS.of rfl rfl (x_indexAddrAr Tryz.underlying222 ty221 rfl rfl (by decide))) ?_
    refine k_no rfl rfl rfl (s_st 0 rfl ty221 rfl (by conv => lhs; whnf) rfl (nfaC_blt (p := 0) (by rw [hXo.1]; decide)) H (fun w H => ⟨⟨trivial, ⟨trivial, ⟨trivial, ⟨RS.of rfl rfl (x_load Tryz.underlying221 rfl rfl (H.cellL 2 rfl rfl)), ⟨RS.of rfl rfl (x_fieldAddr (k := 1) Tryz.underlying226 rfl rfl ty221 (by decide) rfl), ⟨trivial, ⟨trivial, ⟨RS.of rfl rfl (x_move (by (conv => lhs; whnf); try rfl)), ⟨trivial, trivial⟩⟩⟩⟩⟩⟩⟩⟩⟩, ?_⟩))
    rw [nfaC_setF (p := 0) (by rw [hXo.1]; decide)] at H
    refine k_rd rfl rfl (RS.of rfl rfl (x_nilCheck rfl)) ?_
    refine k_rd rfl rfl (RS.of rfl rfl (x_fieldAddr (k := 26) Tryz.underlying224 rfl rfl ty221 (by decide) rfl)) ?_
    refine k_no rfl rfl rfl (s_st 0 rfl ty221 rfl (by conv => lhs; whnf) rfl (nfaC_bltL (by rw [List.length_set]; exact hXo.1)) H (fun w H => ⟨⟨trivial, ⟨trivial, ⟨trivial, ⟨trivial, ⟨trivial, ⟨trivial, ⟨trivial, ⟨trivial, ⟨trivial, ⟨trivial, ⟨trivial, trivial⟩⟩⟩⟩⟩⟩⟩⟩⟩⟩⟩, ?_⟩))
    rw [nfaC_setL (by rw [List.length_set]; exact hXo.1)] at H
    show _
    refine WC.seq ?_
    refine WC.region ?_
    refine l_rd rfl rfl (x_move (by conv => lhs; whnf)) ?_
    refine l_rd rfl rfl (x_assign (by conv => lhs; whnf)) ?_
    refine l_rd rfl rfl (x_assign ev_c) ?_
    refine WL.nil ?_
    refine WC.ret ?_
    refine atRet ?_
    exact RetM.two rfl (by (conv => lhs; whnf); try rfl) (by (conv => lhs; whnf); try rfl) (.inr ⟨h7, n, rfl, by rw [nfaT, hXX]; exact PX.mk (A := nfA n (X.1.1, X.1.2.set 0 X.2.1) X.2.2 (emptyE t)) v1 trivial (Hd.arrT [_, _, _, _, _] [0, 1, 3] (by decide) rfl H)⟩)
  ·
    obtain rfl : r = .bool false := by rw [hr1, decide_eq_false h7]
    refine l_rd rfl rfl (x_not rfl) ?_
    refine WL.nil ?_
    refine WC.cond1 rfl ?_
    refine WC.seq ?_
    refine WC.region ?_
    refine l_rd rfl rfl (x_assign ev_c) ?_
    refine l_rd rfl rfl (x_assign ev_c) ?_
    refine WL.nil ?_
    refine WC.ret ?_
    refine atRet ?_
    exact RetM.two rfl (by (conv => lhs; whnf); try rfl) (by (conv => lhs; whnf); try rfl) (.inl ⟨h7, rfl, Hd.arrT [_, _] [1] (by decide) rfl H⟩)
end Go.Proofs.YteibnmkikdbndaaGreatDoor
namespace Go.Proofs
open Go.Shelf Go.RowKit
def Tryz.lays166_ren : Go.Shelf.Ren := ⟨fun | 166 => 183 | 240 => 231 | 276 => 258 | n => n, fun | 37 => 288 | 70 => 287 | 72 => 290 | 75 => 292 | 80 => 296 | 164 => 354 | n => n, fun | n => n⟩
theorem Tryz.lays166 : Go.Proofs.Lays.n166 Tryz.prog Tryz.lays166_ren := {
  mixed := by kernel_rfl
  f166 := Tryz.func183.trans (congrArg some (by kernel_rfl))
  f240 := Tryz.func231.trans (congrArg some (by kernel_rfl))
  f276 := Tryz.func258.trans (congrArg some (by kernel_rfl))
  t0 := Tryz.underlying0
  a0 := Tryz.isAgg0
  z0 := Tryz.sizeOf0
  v0 := Tryz.zeroValue0
  t3 := Tryz.underlying3
  a3 := Tryz.isAgg3
  z3 := Tryz.sizeOf3
  v3 := Tryz.zeroValue3
  t4 := Tryz.underlying4
  a4 := Tryz.isAgg4
  z4 := Tryz.sizeOf4
  v4 := Tryz.zeroValue4
  t9 := Tryz.underlying9
  a9 := Tryz.isAgg9
  z9 := Tryz.sizeOf9
  v9 := Tryz.zeroValue9
  t20 := Tryz.underlying20
  a20 := Tryz.isAgg20
  z20 := Tryz.sizeOf20
  v20 := Tryz.zeroValue20
  t37 := Tryz.underlying288
  a37 := Tryz.isAgg288
  z37 := Tryz.sizeOf288
  v37 := Tryz.zeroValue288
  t70 := Tryz.underlying287
  a70 := Tryz.isAgg287
  z70 := Tryz.sizeOf287
  v70 := Tryz.zeroValue287
  t72 := Tryz.underlying290
  a72 := Tryz.isAgg290
  z72 := Tryz.sizeOf290
  v72 := Tryz.zeroValue290
  t75 := Tryz.underlying292
  a75 := Tryz.isAgg292
  z75 := Tryz.sizeOf292
  v75 := Tryz.zeroValue292
  t164 := Tryz.underlying354
  a164 := Tryz.isAgg354
  z164 := Tryz.sizeOf354
  v164 := Tryz.zeroValue354 }
theorem Tryz.Builder_Extra_166 : Builder.Extra Tryz.prog Tryz.lays166_ren := {
  sizeBuilder := by kernel_rfl
  liesBuilder := by kernel_rfl
  t5 := Tryz.underlying5
  a5 := Tryz.isAgg5
  z5 := Tryz.sizeOf5
  v5 := Tryz.zeroValue5
  infoByte := by kernel_rfl
  cellsByte := by kernel_rfl
  sizeByte := by kernel_rfl
  neB5 := by decide }
theorem Tryz.Builder_WriteString (B b : Nat) (bs : List Value) (s : ByteArray) (w : World) (h : Lib.IsBuilder 290 5 B b bs w) (hlen : bs.length + s.size ≤ 140737488355328) (hBw : B ≤ w.heap.size) :
    Calls Tryz.prog 183 #[.pointer (some ⟨b, 0, none⟩), .string s] w fun e w' => e = .returned (.tuple #[.int .i64 s.size, .nilIface]) ∧ (Lib.BuilderAt 290 5 B b (.pointer (some ⟨b, 0, none⟩)) (bs ++ Lib.strCells s) w' ∧ Below B w w') := Any.Builder_WriteString Tryz.lays166 Tryz.Builder_Extra_166 B b bs s w h hlen hBw
end Go.Proofs
namespace Go.Proofs.YteibnmkikdbndaaGreatDoor
open Go Go.RowKit KE Go.Proofs
/-! ### how many positions a set has -/
theorem len_sub {α : Type} [DecidableEq α] : ∀ {l m : List α}, l.Nodup → (∀ x ∈ l, x ∈ m) → l.length ≤ m.length
  | [], _, _, _ => Nat.zero_le _
  | a :: l, m, hn, hs => by
    rw [List.nodup_cons] at hn
    have ha := hs a List.mem_cons_self
    have := len_sub (l := l) (m := m.erase a) hn.2 fun x hx => (List.mem_erase_of_ne (fun e => hn.1 (by rw [← e]; exact hx))).2 (hs x (List.mem_cons_of_mem _ hx))
    rw [List.length_erase_of_mem ha] at this
    have : 0 < m.length := List.length_pos_of_mem ha
    simp only [List.length_cons]; omega
theorem tz_clear {s : Nat} (h : s ≠ 0) (h2 : s < 4294967296) : (s &&& (s - 1)).testBit (Lib.ctz 32 s) = false := by
  obtain ⟨m, h3, h4⟩ := Lib.ctzFrom_spec 32 s (by omega) h2
  have e : Lib.ctz 32 s = Lib.ctzFrom 32 s := by unfold Lib.ctz; rw [if_neg h]
  rw [e]
  generalize Lib.ctzFrom 32 s = c at h3 h4
  rw [Nat.testBit_and]
  have h5 : s - 1 = 2 ^ c * (2 * m) + (2 ^ c - 1) := by
    have : 0 < 2 ^ c := Nat.two_pow_pos c
    subst h3
    rw [Nat.mul_add, Nat.mul_one]; omega
  rw [h5, Nat.testBit_two_pow_mul_add _ (by have := Nat.two_pow_pos c; omega)]
  simp
theorem bits_nodup : ∀ (n s : Nat), s < n → s < 4294967296 → (bitsF s).Nodup
  | 0, s, h, _ => absurd h (by omega)
  | n + 1, s, h, h2 => by
    by_cases h0 : s = 0
    · subst h0; rw [bitsF_0]; exact List.nodup_nil
    · rw [bitsF_pos h0, List.nodup_cons]
      have hl := and_lt h0
      refine ⟨fun hm => ?_, bits_nodup n _ (by omega) (by omega)⟩
      have := bits_bit _ _ (Nat.lt_succ_self _) (by omega) hm
      rw [tz_clear h0 h2] at this
      cases this
theorem bits_25 {m s : Nat} (h : okS m s) (hm : m ≤ 24) : (bitsF s).length ≤ 24 := by
  have := len_sub (m := (List.range 24).map (· + 1)) (bits_nodup _ s (Nat.lt_succ_self _) (by have := h.1; omega)) fun p hp => by
    have := h.bits hp
    exact List.mem_map.2 ⟨p - 1, List.mem_range.2 (by omega), by omega⟩
  simpa using this
/-! ### numerals, keys -/
def itoaS (n : Int) : ByteArray := ⟨(Lib.itoa n).toArray⟩
theorem itoaS_le (n : Int) (h0 : -9223372036854775808 ≤ n) (h1 : n ≤ 9223372036854775807) : (itoaS n).size ≤ 21 := by
  have := Lib.itoa_length_le n h0 h1
  exact this
def keyL (ps : List Nat) : List UInt8 := ps.flatMap fun (p : Nat) => Lib.itoa (p : Int) ++ [32]
def keyS (ps : List Nat) : ByteArray := ⟨(keyL ps).toArray⟩
theorem itoa_nat (u : Nat) : Lib.itoa (u : Int) = Lib.decDigits u := by unfold Lib.itoa; rw [if_neg (by omega)]; simp
theorem dec_val : ∀ (n u : Nat), u < n → (Lib.decDigits u).foldl (fun a (c : UInt8) => a * 10 + (c.toNat - 48)) 0 = u
  | 0, u, h => absurd h (by omega)
  | n + 1, u, h => by
    rw [Lib.decDigits]
    split
    · rename_i h1
      show 0 * 10 + ((UInt8.ofNat (48 + u)).toNat - 48) = u
      rw [UInt8.toNat_ofNat_of_lt' (by show _ < 256; omega)]; omega
    · rename_i h1
      rw [List.foldl_append, dec_val n (u / 10) (by omega)]
      show u / 10 * 10 + ((UInt8.ofNat (48 + u % 10)).toNat - 48) = u
      rw [UInt8.toNat_ofNat_of_lt' (by show _ < 256; omega)]; omega
theorem dec_chr : ∀ (n u : Nat), u < n → ∀ c ∈ Lib.decDigits u, c ≠ 32
  | 0, u, h => absurd h (by omega)
  | n + 1, u, h => by
    intro c hc
    rw [Lib.decDigits] at hc
    split at hc
    · rename_i h1
      have := List.mem_singleton.1 hc
      subst this
      intro e
      have := congrArg UInt8.toNat e
      rw [UInt8.toNat_ofNat_of_lt' (by show _ < 256; omega)] at this
      have h9 : (32 : UInt8).toNat = 32 := rfl
      omega
    · rename_i h1
      rcases List.mem_append.1 hc with hc | hc
      · exact dec_chr n _ (by omega) c hc
      · have := List.mem_singleton.1 hc
        subst this
        intro e
        have := congrArg UInt8.toNat e
        rw [UInt8.toNat_ofNat_of_lt' (by show _ < 256; omega)] at this
        have h9 : (32 : UInt8).toNat = 32 := rfl
        omega
theorem dec_inj {a b : Nat} (h : Lib.decDigits a = Lib.decDigits b) : a = b := by
  have h1 := dec_val _ a (Nat.lt_succ_self _)
  rw [h, dec_val _ b (Nat.lt_succ_self _)] at h1
  exact h1.symm
theorem split32 : ∀ {A B x y : List UInt8}, (∀ c ∈ A, c ≠ 32) → (∀ c ∈ B, c ≠ 32) → (x = [] ∨ ∃ r, x = 32 :: r) → (y = [] ∨ ∃ r, y = 32 :: r) → A ++ x = B ++ y → A = B
  | [], [], _, _, _, _, _, _, _ => rfl
  | [], b :: B, x, y, _, hB, hx, _, h => by
    rcases hx with rfl | ⟨r, rfl⟩
    · simp at h
    · simp only [List.nil_append, List.cons_append, List.cons.injEq] at h
      exact absurd h.1.symm (hB b List.mem_cons_self)
  | a :: A, [], x, y, hA, _, _, hy, h => by
    rcases hy with rfl | ⟨r, rfl⟩
    · simp at h
    · simp only [List.nil_append, List.cons_append, List.cons.injEq] at h
      exact absurd h.1 (hA a List.mem_cons_self)
  | a :: A, b :: B, x, y, hA, hB, hx, hy, h => by
    simp only [List.cons_append, List.cons.injEq] at h
    rw [h.1, split32 (fun c hc => hA c (List.mem_cons_of_mem _ hc)) (fun c hc => hB c (List.mem_cons_of_mem _ hc)) hx hy h.2]
/-! ### texts in order -/
theorem ule_tr {a b c : List UInt8} (h : a ≤ b) (k : b ≤ c) : a ≤ c := List.le_trans h k
theorem ule_to (a b : List UInt8) : a ≤ b ∨ b ≤ a := List.le_total a b
theorem ule_an {a b : List UInt8} (h : a ≤ b) (k : b ≤ a) : a = b := List.le_antisymm h k
theorem ul_inj {a b : ByteArray} (h : ul a = ul b) : a = b := by rw [← unl_ul a, h, unl_ul]
/-- in order -/
def inO (l : List ByteArray) : Prop := l.Pairwise fun a b => ul a ≤ ul b
theorem sort_pw (xs : List ByteArray) : ((xs.map ul).mergeSort fun x y => decide (x ≤ y)).Pairwise (· ≤ ·) := by
  have := List.pairwise_mergeSort (le := fun x y : List UInt8 => decide (x ≤ y)) (fun a b c h1 h2 => by simp only [decide_eq_true_eq] at *; exact ule_tr h1 h2) (fun a b => by
    rcases ule_to a b with h | h <;> simp [h]) (xs.map ul)
  exact this.imp fun h => by simpa using h
theorem sort_perm (xs : List ByteArray) : (sortS xs).Perm xs := by
  have h := (List.mergeSort_perm (xs.map ul) fun x y => decide (x ≤ y)).map unl
  rw [List.map_map] at h
  have e : xs.map (unl ∘ ul) = xs := by
    conv => rhs; rw [← List.map_id xs]
    exact List.map_congr_left fun x _ => unl_ul x
  rw [e] at h; exact h
theorem sort_inO (xs : List ByteArray) : inO (sortS xs) := by
  unfold inO sortS
  rw [List.pairwise_map]
  exact (sort_pw xs).imp fun h => by rw [ul_unl, ul_unl]; exact h
theorem inO_eq {xs ys : List ByteArray} (hx : inO xs) (hy : inO ys) (hp : xs.Perm ys) : xs = ys :=
  List.Perm.eq_of_pairwise (fun a b _ _ h k => ul_inj (ule_an h k)) hx hy hp
theorem sort_eq {xs ys : List ByteArray} (hp : xs.Perm ys) (hy : inO ys) : sortS xs = ys := inO_eq (sort_inO xs) hy ((sort_perm xs).trans hp)
theorem compact_lt {zs : List (List UInt8)} (h : zs.Pairwise (· ≤ ·)) : (Lib.compact zs).Pairwise fun a b => a ≤ b ∧ a ≠ b := by
  unfold Lib.compact Lib.compactUpTo
  rw [List.pairwise_map]
  have hg : ∀ i, i < zs.length → zs.toArray[i]! = zs[i]! := fun i hi => by simp
  have hmono : ∀ i j, i ≤ j → j < zs.length → zs[i]! ≤ zs[j]! := fun i j hij hj => by
    rcases Nat.lt_or_eq_of_le hij with h1 | rfl
    · rw [getElem!_pos zs i (by omega), getElem!_pos zs j hj]
      exact List.pairwise_iff_getElem.1 h i j (by omega) hj h1
    · exact List.le_refl _
  have hp : ((List.range zs.length).filter (Lib.keeps zs.toArray)).Pairwise (· < ·) := List.Pairwise.filter _ List.pairwise_lt_range
  refine List.Pairwise.imp_of_mem ?_ hp
  intro i j hi hj hij
  obtain ⟨hi1, hi2⟩ := List.mem_filter.1 hi
  obtain ⟨hj1, hj2⟩ := List.mem_filter.1 hj
  have hi1 := List.mem_range.1 hi1
  have hj1 := List.mem_range.1 hj1
  rw [hg i hi1, hg j hj1]
  refine ⟨hmono i j (by omega) hj1, fun e => ?_⟩
  have h1 := hmono i (j - 1) (by omega) (by omega)
  have h2 := hmono (j - 1) j (by omega) hj1
  have h3 : zs[j]! = zs[j - 1]! := ule_an (e ▸ h1) h2
  have : Lib.keeps zs.toArray j = false := Lib.keeps_neg (by omega) (by rw [hg j hj1, hg (j - 1) (by omega)]; exact h3)
  rw [this] at hj2; cases hj2
theorem comp_pw {xs : List ByteArray} (h : inO xs) : (compS xs).Pairwise fun a b => ul a ≤ ul b ∧ a ≠ b := by
  unfold compS
  rw [List.pairwise_map]
  have : (xs.map ul).Pairwise (· ≤ ·) := List.pairwise_map.2 h
  exact (compact_lt this).imp fun ⟨h1, h2⟩ => ⟨by rw [ul_unl, ul_unl]; exact h1, fun e => h2 (by have := congrArg ul e; rwa [ul_unl, ul_unl] at this)⟩
theorem comp_mem {xs : List ByteArray} {x : ByteArray} (h : x ∈ compS xs) : x ∈ xs := by
  obtain ⟨y, hy, rfl⟩ := List.mem_map.1 h
  have hy : y ∈ Lib.compact (xs.map ul) := hy
  unfold Lib.compact Lib.compactUpTo at hy
  obtain ⟨i, hi, rfl⟩ := List.mem_map.1 hy
  have hi := List.mem_range.1 (List.mem_filter.1 hi).1
  have hi2 : i < xs.length := by simpa using hi
  rw [getElem!_pos _ i (by simpa using hi2)]
  simp only [List.getElem_toArray, List.getElem_map, unl_ul]
  exact List.getElem_mem hi2
/-- labels: few, in order, each once, short -/
def okL (l : List ByteArray) : Prop := l.length ≤ 24 ∧ l.Nodup ∧ inO l ∧ ∀ x ∈ l, x.size ≤ 100
theorem fre_size {x : ByteArray} (h : fre x) : x.size ≤ 100 := by
  have := h.1; unfold vtx at this; omega
theorem labsT_ok (t : Et) : okL (labsT t) := by
  unfold labsT
  split
  · rename_i h
    have hl : (compS (sortS (labsL (parts t)))).length ≤ 24 := by
      have h1 := Lib.compact_length_le ((sortS (labsL (parts t))).map ul)
      have h2 := labsL_le (parts t)
      have h3 := h.1
      rw [compS, List.length_map]
      rw [List.length_map, sortS_len] at h1
      omega
    have hp := comp_pw (sort_inO (labsL (parts t)))
    refine ⟨hl, hp.imp fun h => h.2, hp.imp fun h => h.1, fun x hx => ?_⟩
    have hx := (sort_perm _).mem_iff.1 (comp_mem hx)
    obtain ⟨p, hp, rfl⟩ := List.mem_map.1 hx
    obtain ⟨hp1, hp2⟩ := List.mem_filter.1 hp
    have hk : p.k = 1 := by simpa using hp2
    have := h.2 p hp1
    unfold okT okP at this
    rw [if_pos hk] at this
    exact fre_size this.2
  · exact ⟨Nat.zero_le _, List.nodup_nil, List.Pairwise.nil, fun x hx => by cases hx⟩
/-! ### graphs: rows, ends -/
abbrev Row := List (ByteArray × Nat)
structure Gr where
  rows : List Row
  ends : List Bool
/-- a row: labels in order, where they lead -/
def okRow (labels : List ByteArray) (n : Nat) (row : Row) : Prop := (row.map (·.1)).Sublist labels ∧ ∀ p ∈ row, p.2 < n
def okG (labels : List ByteArray) (G : Gr) : Prop := 1 ≤ G.rows.length ∧ G.rows.length ≤ 256 ∧ G.ends.length = G.rows.length ∧ ∀ row ∈ G.rows, okRow labels G.rows.length row
theorem okRow.nodup {labels : List ByteArray} {n : Nat} {row : Row} (hl : okL labels) (h : okRow labels n row) : (row.map (·.1)).Nodup := List.Nodup.sublist h.1 hl.2.1
theorem okRow.inO {labels : List ByteArray} {n : Nat} {row : Row} (hl : okL labels) (h : okRow labels n row) : inO (row.map (·.1)) := List.Pairwise.sublist h.1 hl.2.2.1
theorem okRow.len {labels : List ByteArray} {n : Nat} {row : Row} (hl : okL labels) (h : okRow labels n row) : row.length ≤ 24 := by
  have := h.1.length_le
  rw [List.length_map] at this
  exact Nat.le_trans this hl.1
theorem okRow.size {labels : List ByteArray} {n : Nat} {row : Row} (hl : okL labels) (h : okRow labels n row) : ∀ p ∈ row, p.1.size ≤ 100 := fun p hp => hl.2.2.2 _ (h.1.subset (List.mem_map_of_mem hp))
theorem okRow.mono {labels : List ByteArray} {n m : Nat} {row : Row} (h : okRow labels n row) (hm : n ≤ m) : okRow labels m row := ⟨h.1, fun p hp => Nat.lt_of_lt_of_le (h.2 p hp) hm⟩
/-! ### the sets of positions -/
def knownF (i : Nat) : List (List Nat) → List (ByteArray × Nat)
  | [] => []
  | s :: l => (keyS s, i) :: knownF (i + 1) l
theorem knownF_snoc {to : List Nat} : ∀ {l : List (List Nat)} {i : Nat}, knownF i (l ++ [to]) = knownF i l ++ [(keyS to, i + l.length)]
  | [], i => rfl
  | s :: l, i => by
    rw [List.cons_append, knownF, knownF_snoc (l := l), knownF, List.length_cons]
    rw [show i + 1 + l.length = i + (l.length + 1) by omega]; rfl
theorem knownF_lt {k : ByteArray} {v : Nat} : ∀ {l : List (List Nat)} {i : Nat}, glook k (knownF i l) = some v → v < i + l.length
  | [], i, h => by cases h
  | s :: l, i, h => by
    rw [knownF] at h
    simp only [glook] at h
    split at h
    · cases h; simp
    · have := knownF_lt (l := l) h
      rw [List.length_cons]; omega
/-- one label -/
def setsS (step : List Nat → ByteArray → List Nat) (cur : List Nat) (a : List (List Nat) × Row) (l : ByteArray) : List (List Nat) × Row :=
  if step cur l = [] then a else
    match glook (keyS (step cur l)) (knownF 0 a.1) with
    | some k => (a.1, gset l k a.2)
    | none => (a.1 ++ [step cur l], gset l a.1.length a.2)
def setsL (step : List Nat → ByteArray → List Nat) (cur : List Nat) (ls : List ByteArray) (all : List (List Nat)) : List (List Nat) × Row := ls.foldl (setsS step cur) (all, [])
def setsGo (step : List Nat → ByteArray → List Nat) (labels : List ByteArray) (fin : Nat → List Nat → Bool) : Nat → Nat → List (List Nat) → Gr → Option Gr
  | 0, _, _, _ => none
  | f + 1, at_, all, g => match all[at_]? with
    | none => some g
    | some cur => if 256 < (setsL step cur labels all).1.length then none else setsGo step labels fin f (at_ + 1) (setsL step cur labels all).1 ⟨g.rows ++ [(setsL step cur labels all).2], g.ends ++ [fin at_ cur]⟩
/-- what stays true while a row is made -/
def setsI (Φ : List Nat → Prop) (labels : List ByteArray) (all0 : List (List Nat)) (m : Nat) (a : List (List Nat) × Row) : Prop :=
  (∃ tl, a.1 = all0 ++ tl ∧ tl.length ≤ m) ∧ (∀ s ∈ a.1, Φ s) ∧ okRow (labels.take m) a.1.length a.2
theorem gset_app {κ α : Type} [DecidableEq κ] {k : κ} {v : α} {l : List (κ × α)} (h : k ∉ l.map (·.1)) : gset k v l = l ++ [(k, v)] :=
  gset_new (glook_none.2 fun p hp e => h (e ▸ List.mem_map_of_mem (f := (·.1)) hp))
theorem setsI.step {Φ : List Nat → Prop} {labels : List ByteArray} {all0 : List (List Nat)} {m : Nat} {a : List (List Nat) × Row} {step : List Nat → ByteArray → List Nat} {cur : List Nat} {l : ByteArray} (h : setsI Φ labels all0 m a) (hn : labels.Nodup) (hl : labels[m]? = some l) (hΦ : Φ (step cur l)) :
    setsI Φ labels all0 (m + 1) (setsS step cur a l) := by
  obtain ⟨⟨tl, h1, h2⟩, h3, h4⟩ := h
  have ht : labels.take (m + 1) = labels.take m ++ [l] := by rw [List.take_add_one, hl]; rfl
  have hnew : l ∉ labels.take m := fun hm => by
    obtain ⟨i, hi⟩ := List.getElem?_of_mem hm
    rw [List.getElem?_take] at hi
    split at hi
    · have := nodup_get hn hi hl; omega
    · cases hi
  have hnr : l ∉ a.2.map (·.1) := fun hm => hnew (h4.1.subset hm)
  have hrow : ∀ (k n : Nat), k < n → a.1.length ≤ n → okRow (labels.take (m + 1)) n (gset l k a.2) := fun k n hk hln => by
    rw [gset_app hnr, ht]
    refine ⟨by rw [List.map_append]; exact h4.1.append (List.Sublist.refl _), fun p hp => ?_⟩
    rcases List.mem_append.1 hp with hp | hp
    · have := h4.2 p hp; omega
    · have := List.mem_singleton.1 hp; subst this; exact hk
  unfold setsS
  split
  · refine ⟨⟨tl, h1, by omega⟩, h3, ?_, h4.2⟩
    rw [ht]; exact h4.1.trans (List.sublist_append_left _ _)
  · split
    · rename_i k hk
      have := knownF_lt hk
      exact ⟨⟨tl, h1, by omega⟩, h3, hrow k _ (by show k < a.1.length; omega) (Nat.le_refl _)⟩
    · refine ⟨⟨tl ++ [step cur l], by rw [h1, List.append_assoc], by simp; omega⟩, fun s hs => ?_, hrow _ _ (by simp) (by simp)⟩
      rcases List.mem_append.1 hs with hs | hs
      · exact h3 s hs
      · have := List.mem_singleton.1 hs; subst this; exact hΦ
theorem foldl_take {α β : Type} (f : β → α → β) (b : β) {l : List α} {k : Nat} {x : α} (h : l[k]? = some x) : (l.take (k + 1)).foldl f b = f ((l.take k).foldl f b) x := by
  rw [List.take_add_one, h, Option.toList_some, List.foldl_append]; rfl
theorem setsI.all {Φ : List Nat → Prop} {labels : List ByteArray} {all0 : List (List Nat)} {step : List Nat → ByteArray → List Nat} {cur : List Nat} (hn : labels.Nodup) (h0 : ∀ s ∈ all0, Φ s) (hΦ : ∀ l ∈ labels, Φ (step cur l)) :
    ∀ m, m ≤ labels.length → setsI Φ labels all0 m ((labels.take m).foldl (setsS step cur) (all0, []))
  | 0, _ => ⟨⟨[], by simp, Nat.le_refl _⟩, h0, by simp [okRow]⟩
  | m + 1, hm => by
    have hl : labels[m]? = some labels[m] := List.getElem?_eq_getElem hm
    rw [foldl_take _ _ hl]
    exact (setsI.all hn h0 hΦ m (by omega)).step hn hl (hΦ _ (List.getElem_mem hm))
/-- the graph that is made is a graph -/
theorem setsGo_ok {step : List Nat → ByteArray → List Nat} {labels : List ByteArray} {fin : Nat → List Nat → Bool} (hn : labels.Nodup) {G : Gr} : ∀ (f at_ : Nat) (all : List (List Nat)) (g : Gr),
    all.length ≤ 256 → 1 ≤ all.length → at_ ≤ all.length → g.rows.length = at_ → g.ends.length = at_ → (∀ row ∈ g.rows, okRow labels all.length row) → setsGo step labels fin f at_ all g = some G → okG labels G
  | 0, at_, all, g, _, _, _, _, _, _, h => by cases h
  | f + 1, at_, all, g, h1, h0, h2, h3, h4, h5, h => by
    rw [setsGo] at h
    cases hc : all[at_]? with
    | none =>
      rw [hc] at h
      cases h
      have : all.length ≤ at_ := by
        rcases Nat.lt_or_ge at_ all.length with hlt | hge
        · rw [List.getElem?_eq_getElem hlt] at hc; cases hc
        · exact hge
      have e : at_ = all.length := by omega
      subst e
      exact ⟨by omega, by omega, by omega, fun row hr => by rw [h3]; exact h5 row hr⟩
    | some cur =>
      rw [hc] at h
      simp only [] at h
      split at h
      · cases h
      · rename_i hle
        obtain ⟨⟨tl, e1, e2⟩, _, e3⟩ := setsI.all (Φ := fun _ => True) (cur := cur) (step := step) (all0 := all) hn (fun _ _ => trivial) (fun _ _ => trivial) labels.length (Nat.le_refl _)
        rw [List.take_length] at e1 e3
        have e1 : (setsL step cur labels all).1 = all ++ tl := e1
        have hlt : at_ < all.length := (List.getElem?_eq_some_iff.1 hc).1
        have hlen : all.length ≤ (setsL step cur labels all).1.length := by rw [e1, List.length_append]; omega
        refine setsGo_ok hn f (at_ + 1) _ _ (by omega) (by omega) (by omega) (by simp [h3]) (by simp [h4]) ?_ h
        intro row hr
        rcases List.mem_append.1 hr with hr | hr
        · exact (h5 row hr).mono hlen
        · have := List.mem_singleton.1 hr; subst this; exact e3
def setsF (step : List Nat → ByteArray → List Nat) (labels : List ByteArray) (fin : Nat → List Nat → Bool) : Option Gr := setsGo step labels fin 258 0 [[0]] ⟨[], []⟩
theorem setsF_ok {step : List Nat → ByteArray → List Nat} {labels : List ByteArray} {fin : Nat → List Nat → Bool} (hn : labels.Nodup) {G : Gr} (h : setsF step labels fin = some G) : okG labels G :=
  setsGo_ok hn 258 0 [[0]] ⟨[], []⟩ (by decide) (by decide) (by decide) rfl rfl (fun row h => by cases h) h
/-! ### parts -/
def sp : ByteArray := ⟨#[32]⟩
def rkS (part : List Nat) (k : ByteArray) (x : ByteArray × Nat) : ByteArray := k ++ (((sp ++ x.1) ++ sp) ++ itoaS (part.getD x.2 0 : Nat))
/-- a state's key -/
def rowKey (part : List Nat) (p : Nat) (row : Row) : ByteArray := row.foldl (rkS part) (itoaS p)
theorem app_ul (a b : ByteArray) : ul (a ++ b) = ul a ++ ul b := by simp [ul, ByteArray.data_append]
theorem rowKey_ul (part : List Nat) : ∀ (row : Row) (k : ByteArray), ∃ x, (x = [] ∨ ∃ r, x = 32 :: r) ∧ ul (row.foldl (rkS part) k) = ul k ++ x
  | [], k => ⟨[], .inl rfl, by simp⟩
  | p :: row, k => by
    obtain ⟨x, hx, e⟩ := rowKey_ul part row (rkS part k p)
    refine ⟨32 :: (ul p.1 ++ 32 :: (ul (itoaS (part.getD p.2 0 : Nat)) ++ x)), .inr ⟨_, rfl⟩, ?_⟩
    rw [List.foldl_cons, e, rkS, app_ul, app_ul, app_ul, app_ul]
    have h9 : ul sp = [32] := rfl
    rw [h9]; simp
theorem rowKey_inj {part : List Nat} {p q : Nat} {row row' : Row} (h : rowKey part p row = rowKey part q row') : p = q := by
  obtain ⟨x, hx, e⟩ := rowKey_ul part row (itoaS p)
  obtain ⟨y, hy, e'⟩ := rowKey_ul part row' (itoaS q)
  have h := congrArg ul h
  unfold rowKey at h
  rw [e, e'] at h
  have h1 : ul (itoaS (p : Int)) = Lib.decDigits p := by show (Lib.itoa (p : Int)).toArray.toList = _; rw [itoa_nat]
  have h2 : ul (itoaS (q : Int)) = Lib.decDigits q := by show (Lib.itoa (q : Int)).toArray.toList = _; rw [itoa_nat]
  rw [h1, h2] at h
  exact dec_inj (split32 (dec_chr _ p (Nat.lt_succ_self _)) (dec_chr _ q (Nat.lt_succ_self _)) hx hy h)
theorem rkS_size {part : List Nat} {k : ByteArray} {x : ByteArray × Nat} (hx : x.1.size ≤ 100) (hp : ∀ q ∈ part, q < 1000000) : (rkS part k x).size ≤ k.size + 123 := by
  have h1 : part.getD x.2 0 < 1000000 := by
    rw [List.getD_eq_getElem?_getD]
    cases e : part[x.2]? with
    | none => decide
    | some q => exact hp q (List.mem_of_getElem? e)
  have := itoaS_le (part.getD x.2 0 : Nat) (by omega) (by omega)
  have h9 : sp.size = 1 := rfl
  simp only [rkS, ByteArray.size_append]; omega
theorem rowKey_size {part : List Nat} (hp : ∀ q ∈ part, q < 1000000) : ∀ {row : Row} {k : ByteArray}, (∀ p ∈ row, p.1.size ≤ 100) → (row.foldl (rkS part) k).size ≤ k.size + row.length * 123
  | [], k, _ => by simp
  | x :: row, k, h => by
    have := rowKey_size hp (row := row) (k := rkS part k x) fun p hp => h p (List.mem_cons_of_mem _ hp)
    have := rkS_size (k := k) (h x List.mem_cons_self) hp
    simp only [List.foldl_cons, List.length_cons] at *; omega
/-- one state: what is known, the numbers -/
def refS (part : List Nat) (a : List (ByteArray × Nat) × List Nat) (x : Row × Nat) : List (ByteArray × Nat) × List Nat :=
  match glook (rowKey part x.2 x.1) a.1 with
  | some n => (a.1, a.2 ++ [n])
  | none => (gset (rowKey part x.2 x.1) a.1.length a.1, a.2 ++ [a.1.length])
def refF (part : List Nat) (rows : List Row) : List (ByteArray × Nat) × List Nat := (rows.zip part).foldl (refS part) ([], [])
def partsGo (rows : List Row) : Nat → List Nat → Nat → List Nat
  | 0, part, _ => part
  | f + 1, part, many => if (refF part rows).1.length = many then (refF part rows).2 else partsGo rows f (refF part rows).2 (refF part rows).1.length
def part0 (ends : List Bool) : List Nat := ends.map fun b => if b then 1 else 0
/-- the numbers: below the count, and all that is known stands in them -/
def refI (part : List Nat) (xs : List (Row × Nat)) (a : List (ByteArray × Nat) × List Nat) : Prop :=
  (a.1.map (·.1)).Nodup ∧ a.2.length = xs.length ∧ a.1.length ≤ xs.length ∧ (∀ p ∈ a.1, p.2 < a.1.length) ∧ (∀ n ∈ a.2, n < a.1.length) ∧ (a.1.map (·.2)) = List.range a.1.length ∧
  (∀ n, n < a.1.length → n ∈ a.2) ∧ (∀ x ∈ xs, rowKey part x.2 x.1 ∈ a.1.map (·.1))
theorem refI.nil (part : List Nat) : refI part [] ([], []) := ⟨List.nodup_nil, rfl, Nat.le_refl _, fun p h => (by cases h), fun p h => (by cases h), rfl, fun n h => absurd h (Nat.not_lt_zero _), fun x h => (by cases h)⟩
theorem refI.step {part : List Nat} {xs : List (Row × Nat)} {a : List (ByteArray × Nat) × List Nat} (h : refI part xs a) (x : Row × Nat) : refI part (xs ++ [x]) (refS part a x) := by
  obtain ⟨h1, h2, h3, h4, h5, h6, h7, h8⟩ := h
  unfold refS
  split
  · rename_i n hn
    have hm := glook_mem hn
    refine ⟨h1, by simp [h2], by simp; omega, h4, fun k hk => ?_, h6, fun k hk => List.mem_append_left _ (h7 k hk), fun y hy => ?_⟩
    · rcases List.mem_append.1 hk with hk | hk
      · exact h5 k hk
      · have := List.mem_singleton.1 hk; subst this; exact h4 _ hm
    · rcases List.mem_append.1 hy with hy | hy
      · exact h8 y hy
      · have := List.mem_singleton.1 hy; subst this; exact List.mem_map_of_mem (f := (·.1)) hm
  · rename_i hn
    rw [gset_new hn]
    have hk := glook_none.1 hn
    refine ⟨?_, by simp [h2], by simp; omega, fun p hp => ?_, fun k hk => ?_, ?_, fun k hk => ?_, fun y hy => ?_⟩
    · rw [List.map_append]
      exact List.nodup_append.2 ⟨h1, by simp, fun a ha b hb e => by
        simp at hb; subst hb; subst e
        obtain ⟨p, hp, e⟩ := List.mem_map.1 ha
        exact hk p hp e⟩
    · rcases List.mem_append.1 hp with hp | hp
      · have := h4 p hp; simp; omega
      · have := List.mem_singleton.1 hp; subst this; simp
    · rcases List.mem_append.1 hk with hk | hk
      · have := h5 k hk; simp; omega
      · have := List.mem_singleton.1 hk; subst this; simp
    · rw [List.map_append, h6, List.length_append]; simp [List.range_succ]
    · rw [List.length_append] at hk
      rcases Nat.lt_or_ge k a.1.length with hlt | hge
      · exact List.mem_append_left _ (h7 k hlt)
      · have : k = a.1.length := by simp at hk; omega
        subst this; exact List.mem_append_right _ (List.mem_singleton_self _)
    · rcases List.mem_append.1 hy with hy | hy
      · rw [List.map_append]; exact List.mem_append_left _ (h8 y hy)
      · have := List.mem_singleton.1 hy; subst this; simp
theorem refI.take (part : List Nat) (xs : List (Row × Nat)) : ∀ m, m ≤ xs.length → refI part (xs.take m) ((xs.take m).foldl (refS part) ([], []))
  | 0, _ => by rw [List.take_zero]; exact refI.nil part
  | m + 1, hm => by
    have hx : xs[m]? = some xs[m] := List.getElem?_eq_getElem hm
    rw [foldl_take _ _ hx, List.take_add_one, hx]
    exact (refI.take part xs m (by omega)).step _
theorem refI.all (part : List Nat) (rows : List Row) : refI part (rows.zip part) (refF part rows) := by
  have := refI.take part (rows.zip part) _ (Nat.le_refl _)
  rwa [List.take_length] at this
/-- many: how many numbers there are -/
def okM (n : Nat) (part : List Nat) (many : Nat) : Prop := part.length = n ∧ ∀ k, k < many → k ∈ part
theorem refF_grow {rows : List Row} {part : List Nat} {many : Nat} (hm : okM rows.length part many) : many ≤ (refF part rows).1.length ∧ (refF part rows).1.length ≤ rows.length ∧ okM rows.length (refF part rows).2 (refF part rows).1.length ∧ ∀ q ∈ (refF part rows).2, q < rows.length := by
  obtain ⟨h1, h2, h3, h4, h5, h6, h7, h8⟩ := refI.all part rows
  have hz : (rows.zip part).length = rows.length := by rw [List.length_zip, hm.1, Nat.min_self]
  refine ⟨?_, by omega, ⟨by omega, h7⟩, fun q hq => by have := h5 q hq; omega⟩
  -- a number each has a state; their keys are unlike
  have hkey : ∀ k, ∃ key, k < many → key ∈ (refF part rows).1.map (·.1) ∧ ∃ row, key = rowKey part k row := fun k => by
    by_cases hk : k < many
    · obtain ⟨i, hi⟩ := List.getElem?_of_mem (hm.2 k hk)
      have hlt := (List.getElem?_eq_some_iff.1 hi).1
      have hlt2 : i < rows.length := by rw [← hm.1]; exact hlt
      have hr : rows[i]? = some rows[i] := List.getElem?_eq_getElem hlt2
      exact ⟨_, fun _ => ⟨h8 (rows[i], k) (List.mem_of_getElem? (i := i) (by rw [List.getElem?_zip_eq_some]; exact ⟨hr, hi⟩)), _, rfl⟩⟩
    · exact ⟨⟨#[]⟩, fun h => absurd h hk⟩
  let key := fun k => (hkey k).choose
  have hkk : ∀ k, k < many → key k ∈ (refF part rows).1.map (·.1) ∧ ∃ row, key k = rowKey part k row := fun k => (hkey k).choose_spec
  have hnd : ((List.range many).map key).Nodup := by
    rw [List.Nodup, List.pairwise_map]
    refine List.Pairwise.imp_of_mem ?_ (List.pairwise_lt_range (n := many))
    intro i j hi hj hij e
    obtain ⟨_, r1, e1⟩ := hkk i (List.mem_range.1 hi)
    obtain ⟨_, r2, e2⟩ := hkk j (List.mem_range.1 hj)
    have := rowKey_inj (e1.symm.trans (e.trans e2))
    omega
  have := len_sub hnd fun x hx => by
    obtain ⟨k, hk, rfl⟩ := List.mem_map.1 hx
    exact (hkk k (List.mem_range.1 hk)).1
  simpa using this
theorem okM_zero (ends : List Bool) {n : Nat} (h : ends.length = n) : okM n (part0 ends) 0 := ⟨by simp [part0, h], fun k hk => absurd hk (Nat.not_lt_zero _)⟩
def partsF (G : Gr) : List Nat := partsGo G.rows (G.rows.length + 1) (part0 G.ends) 0
theorem partsGo_ok {rows : List Row} : ∀ (f : Nat) (part : List Nat) (many : Nat), okM rows.length part many → rows.length + 1 - many ≤ f → (partsGo rows f part many).length = rows.length ∧ ∀ q ∈ partsGo rows f part many, q < rows.length
  | 0, part, many, h, hf => by
    have := (refF_grow h).1
    have := (refF_grow h).2.1
    omega
  | f + 1, part, many, h, hf => by
    obtain ⟨g1, g2, g3, g4⟩ := refF_grow h
    rw [partsGo]
    split
    · exact ⟨g3.1, g4⟩
    · exact partsGo_ok f _ _ g3 (by omega)
theorem partsF_ok {labels : List ByteArray} {G : Gr} (h : okG labels G) : (partsF G).length = G.rows.length ∧ ∀ q ∈ partsF G, q < G.rows.length := partsGo_ok _ _ _ (okM_zero _ h.2.2.1) (by omega)
/-! ### the least graph -/
structure Ls where
  number : List (Nat × Nat)
  order : List Nat
  own : Row
def leastS (part : List Nat) (a : Ls) (x : ByteArray × Nat) : Ls :=
  match glook (part.getD x.2 0) a.number with
  | some n => { a with own := gset x.1 n a.own }
  | none => ⟨gset (part.getD x.2 0) a.order.length a.number, a.order ++ [x.2], gset x.1 a.order.length a.own⟩
def leastGo (part : List Nat) (G : Gr) : Nat → Nat → List (Nat × Nat) → List Nat → Gr → Gr
  | 0, _, _, _, out => out
  | f + 1, at_, number, order, out => match order[at_]? with
    | none => out
    | some s =>
      let a := (G.rows.getD s []).foldl (leastS part) ⟨number, order, []⟩
      leastGo part G f (at_ + 1) a.number a.order ⟨out.rows ++ [a.own], out.ends ++ [G.ends.getD s false]⟩
def leastF (G : Gr) : Gr := leastGo (partsF G) G (G.rows.length + 1) 0 [((partsF G).getD 0 0, 0)] [0] ⟨[], []⟩
/-- what stays true: parts that have a number: as many as the order is long -/
def lsI (n : Nat) (part : List Nat) (labels : List ByteArray) (row : Row) (order0 : List Nat) (a : Ls) : Prop :=
  (a.number.map (·.1)).Nodup ∧ a.number.length = a.order.length ∧ (∀ p ∈ a.number, p.1 < n ∧ p.2 < a.order.length) ∧ (∀ s ∈ a.order, s < n) ∧ (∃ tl, a.order = order0 ++ tl) ∧ (a.own.map (·.1)) = row.map (·.1) ∧ ∀ p ∈ a.own, p.2 < a.order.length
theorem lsI.step {n : Nat} {part : List Nat} {labels : List ByteArray} {row : Row} {order0 : List Nat} {a : Ls} {x : ByteArray × Nat} (h : lsI n part labels row order0 a) (hp : part.length = n) (hq : ∀ q ∈ part, q < n) (hx : x.2 < n) (hnew : x.1 ∉ row.map (·.1)) :
    lsI n part labels (row ++ [x]) order0 (leastS part a x) := by
  obtain ⟨h1, h2, h3, h4, ⟨tl, h5⟩, h6, h7⟩ := h
  have hpx : part.getD x.2 0 < n := by
    rw [List.getD_eq_getElem?_getD, List.getElem?_eq_getElem (by omega)]; exact hq _ (List.getElem_mem _)
  have hno : x.1 ∉ a.own.map (·.1) := by rw [h6]; exact hnew
  unfold leastS
  split
  · rename_i m hm
    have hm := glook_mem hm
    refine ⟨h1, h2, h3, h4, ⟨tl, h5⟩, ?_, fun p hp => ?_⟩
    · show (gset x.1 m a.own).map (·.1) = _
      rw [gset_app hno, List.map_append, List.map_append, h6]; rfl
    · have hp : p ∈ gset x.1 m a.own := hp
      rw [gset_app hno] at hp
      rcases List.mem_append.1 hp with hp | hp
      · exact h7 p hp
      · have := List.mem_singleton.1 hp; subst this; exact (h3 _ hm).2
  · rename_i hm
    have hk := glook_none.1 hm
    refine ⟨gset_nodup h1, ?_, fun p hp => ?_, fun s hs => ?_, ⟨tl ++ [x.2], by show a.order ++ _ = _; rw [h5, List.append_assoc]⟩, ?_, fun p hp => ?_⟩
    · show (gset _ _ a.number).length = (a.order ++ [x.2]).length
      rw [gset_new hm]; simp [h2]
    · have hp : p ∈ gset (part.getD x.2 0) a.order.length a.number := hp
      show p.1 < n ∧ p.2 < (a.order ++ [x.2]).length
      rw [gset_new hm] at hp
      rcases List.mem_append.1 hp with hp | hp
      · have := h3 p hp; simp; omega
      · have := List.mem_singleton.1 hp; subst this; exact ⟨hpx, by simp⟩
    · rcases List.mem_append.1 (show s ∈ a.order ++ [x.2] from hs) with hs | hs
      · exact h4 s hs
      · have := List.mem_singleton.1 hs; subst this; exact hx
    · show (gset x.1 a.order.length a.own).map (·.1) = _
      rw [gset_app hno, List.map_append, List.map_append, h6]; rfl
    · have hp : p ∈ gset x.1 a.order.length a.own := hp
      show p.2 < (a.order ++ [x.2]).length
      rw [gset_app hno] at hp
      rcases List.mem_append.1 hp with hp | hp
      · have := h7 p hp; simp; omega
      · have := List.mem_singleton.1 hp; subst this; simp
theorem lsI.take {n : Nat} {part : List Nat} {labels : List ByteArray} {number : List (Nat × Nat)} {order : List Nat} {row : Row} (hp : part.length = n) (hq : ∀ q ∈ part, q < n) (hr : okRow labels n row) (hl : labels.Nodup)
    (h1 : (number.map (·.1)).Nodup) (h2 : number.length = order.length) (h3 : ∀ p ∈ number, p.1 < n ∧ p.2 < order.length) (h4 : ∀ s ∈ order, s < n) : ∀ m, m ≤ row.length → lsI n part labels (row.take m) order ((row.take m).foldl (leastS part) ⟨number, order, []⟩)
  | 0, _ => ⟨h1, h2, h3, h4, ⟨[], by simp⟩, rfl, fun p h => by cases h⟩
  | m + 1, hm => by
    have hx : row[m]? = some row[m] := List.getElem?_eq_getElem hm
    rw [foldl_take _ _ hx, List.take_add_one, hx]
    refine (lsI.take hp hq hr hl h1 h2 h3 h4 m (by omega)).step hp hq (hr.2 _ (List.getElem_mem hm)) fun hmem => ?_
    obtain ⟨p, hp1, hp2⟩ := List.mem_map.1 hmem
    obtain ⟨i, hi⟩ := List.getElem?_of_mem hp1
    rw [List.getElem?_take] at hi
    split at hi
    · rename_i him
      have hnd : (row.map (·.1)).Nodup := List.Nodup.sublist hr.1 hl
      have e1 : (row.map (·.1))[i]? = some row[m].1 := by rw [List.getElem?_map, hi]; exact congrArg some hp2
      have e2 : (row.map (·.1))[m]? = some row[m].1 := by rw [List.getElem?_map, hx]; rfl
      have := nodup_get hnd e1 e2
      omega
    · cases hi
theorem lsI.few {n : Nat} {part : List Nat} {labels : List ByteArray} {row : Row} {order0 : List Nat} {a : Ls} (h : lsI n part labels row order0 a) : a.order.length ≤ n := by
  have := len_sub (m := List.range n) h.1 fun k hk => by
    obtain ⟨p, hp, rfl⟩ := List.mem_map.1 hk
    exact List.mem_range.2 (h.2.2.1 p hp).1
  rw [List.length_map, List.length_range, h.2.1] at this
  exact this
/-- the state of the outer loop -/
structure LsO (n : Nat) (labels : List ByteArray) (at_ : Nat) (number : List (Nat × Nat)) (order : List Nat) (out : Gr) : Prop where
  nd : (number.map (·.1)).Nodup
  len : number.length = order.length
  num : ∀ p ∈ number, p.1 < n ∧ p.2 < order.length
  ord : ∀ s ∈ order, s < n
  few : order.length ≤ n
  one : 1 ≤ order.length
  here : at_ ≤ order.length
  rows : out.rows.length = at_
  ends : out.ends.length = at_
  ok : ∀ row ∈ out.rows, okRow labels order.length row
theorem LsO.next {n : Nat} {labels : List ByteArray} {at_ s : Nat} {number : List (Nat × Nat)} {order : List Nat} {out : Gr} {part : List Nat} {row : Row} {e : Bool} (h : LsO n labels at_ number order out) (hp : part.length = n) (hq : ∀ q ∈ part, q < n) (hr : okRow labels n row) (hl : labels.Nodup) (hs : order[at_]? = some s) :
    LsO n labels (at_ + 1) (row.foldl (leastS part) ⟨number, order, []⟩).number (row.foldl (leastS part) ⟨number, order, []⟩).order ⟨out.rows ++ [(row.foldl (leastS part) ⟨number, order, []⟩).own], out.ends ++ [e]⟩ := by
  have hi := lsI.take (labels := labels) hp hq hr hl h.nd h.len h.num h.ord row.length (Nat.le_refl _)
  rw [List.take_length] at hi
  have hf := hi.few
  obtain ⟨h1, h2, h3, h4, ⟨tl, h5⟩, h6, h7⟩ := hi
  have hlt := (List.getElem?_eq_some_iff.1 hs).1
  have hlen : order.length ≤ (row.foldl (leastS part) ⟨number, order, []⟩).order.length := by rw [h5, List.length_append]; omega
  refine ⟨h1, h2, h3, h4, hf, Nat.le_trans h.one hlen, by omega, by simp [h.rows], by simp [h.ends], fun r hr2 => ?_⟩
  rcases List.mem_append.1 hr2 with hr2 | hr2
  · exact (h.ok r hr2).mono hlen
  · have := List.mem_singleton.1 hr2; subst this
    exact ⟨by rw [h6]; exact hr.1, h7⟩
theorem leastGo_ok {n : Nat} {labels : List ByteArray} {part : List Nat} {G : Gr} (hp : part.length = n) (hq : ∀ q ∈ part, q < n) (hn : n ≤ 256) (hl : labels.Nodup) (hG : ∀ row ∈ G.rows, okRow labels n row) : ∀ (f at_ : Nat) (number : List (Nat × Nat)) (order : List Nat) (out : Gr),
    LsO n labels at_ number order out → n + 1 - at_ ≤ f → okG labels (leastGo part G f at_ number order out)
  | 0, at_, number, order, out, h, hf => by have := h.few; have := h.here; omega
  | f + 1, at_, number, order, out, h, hf => by
    rw [leastGo]
    cases hs : order[at_]? with
    | none =>
      have : order.length ≤ at_ := by
        rcases Nat.lt_or_ge at_ order.length with hlt | hge
        · rw [List.getElem?_eq_getElem hlt] at hs; cases hs
        · exact hge
      have e : at_ = order.length := by have := h.here; omega
      subst e
      have h1 := h.rows; have h2 := h.ends; have h3 := h.few; have h4 := h.one
      show okG labels out
      exact ⟨by omega, by omega, by omega, fun row hr => by rw [h1]; exact h.ok row hr⟩
    | some s =>
      simp only []
      have hrow : okRow labels n (G.rows.getD s []) := by
        rw [List.getD_eq_getElem?_getD]
        cases e : G.rows[s]? with
        | none => exact ⟨List.nil_sublist _, fun p h => by cases h⟩
        | some r => exact hG r (List.mem_of_getElem? e)
      exact leastGo_ok hp hq hn hl hG f (at_ + 1) _ _ _ (h.next hp hq hrow hl hs) (by omega)
theorem LsO.start {n : Nat} {labels : List ByteArray} {p : Nat} (h1 : 1 ≤ n) (hp : p < n) : LsO n labels 0 [(p, 0)] [0] ⟨[], []⟩ := ⟨by simp, rfl, fun q hq => by have := List.mem_singleton.1 hq; subst this; exact ⟨hp, Nat.one_pos⟩, fun s hs => by have := List.mem_singleton.1 hs; subst this; omega, h1, Nat.le_refl _, Nat.zero_le _, rfl, rfl, fun r h => by cases h⟩
theorem leastF_ok {labels : List ByteArray} {G : Gr} (hl : labels.Nodup) (h : okG labels G) : okG labels (leastF G) := by
  obtain ⟨hp, hq⟩ := partsF_ok h
  have h0 : (partsF G).getD 0 0 < G.rows.length := by
    rw [List.getD_eq_getElem?_getD, List.getElem?_eq_getElem (by have := h.1; omega)]; exact hq _ (List.getElem_mem _)
  exact leastGo_ok hp hq h.2.1 hl h.2.2.2 _ _ _ _ _ (LsO.start h.1 h0) (by omega)
theorem ty290 : Ty Tryz.prog 290 (.agg #[(.pointer none), (.slice none 0 0)]) 2 32 := Ty.of (by kernel_rfl)
theorem cal183 : Cal Tryz.prog 183 := ⟨_, Tryz.func183, rfl, by decide⟩
theorem cal184 : Cal Tryz.prog 184 := ⟨_, Tryz.func184, rfl, by decide⟩
theorem cal185 : Cal Tryz.prog 185 := ⟨_, Tryz.func185, rfl, by decide⟩
theorem c184 {n : Int} (w : World) (hT : TB w) (h0 : -9223372036854775808 ≤ n) (h1 : n ≤ 9223372036854775807) : CC Tryz.prog 184 [I n].toArray w (fun r w' => r = S (itoaS n) ∧ Ext w w') :=
  CC.of_calls ((Tryz.strconv_Itoa n h0 h1 w hT.2).mono fun e w' ⟨he, k, os, hw⟩ => ⟨_, he, rfl, hw ▸ Ext.growN w k os⟩)
theorem c183 {B b : Nat} {bs : List Value} {s : ByteArray} (w : World) (h : Lib.IsBuilder 290 5 B b bs w) (hlen : bs.length + s.size ≤ 140737488355328) (hBw : B ≤ w.heap.size) : CC Tryz.prog 183 [.pointer (some ⟨b, 0, none⟩), S s].toArray w (fun r w' => r = .tuple #[I s.size, .nilIface] ∧ Lib.BuilderAt 290 5 B b (.pointer (some ⟨b, 0, none⟩)) (bs ++ Lib.strCells s) w' ∧ Below B w w') :=
  CC.of_calls ((Tryz.Builder_WriteString B b bs s w h hlen hBw).mono fun e w' ⟨he, h2, h3⟩ => ⟨_, he, rfl, h2, h3⟩)
theorem c185 {B b : Nat} {l : List UInt8} (w : World) (h : Lib.IsBuilder 290 5 B b (Lib.byteCells l) w) (hBw : B ≤ w.heap.size) : CC Tryz.prog 185 [.pointer (some ⟨b, 0, none⟩)].toArray w (fun r w' => r = S ⟨l.toArray⟩ ∧ Below B w w') :=
  CC.of_calls ((Tryz.Builder_String_any B b l w h hBw).mono fun e w' ⟨he, h2⟩ => ⟨_, he, rfl, h2⟩)
theorem byteCells_len (l : List UInt8) : (Lib.byteCells l).length = l.length := by simp [Lib.byteCells]
theorem keyL_le {l : List Nat} (hps : ∀ p ∈ l, p < 1000000) : (keyL l).length ≤ l.length * 22 := by
  induction l with
  | nil => exact Nat.le_refl _
  | cons p l ih =>
    have hp := hps p List.mem_cons_self
    have := Lib.itoa_length_le (p : Int) (by omega) (by omega)
    have := ih fun q hq => hps q (List.mem_cons_of_mem _ hq)
    simp only [keyL, List.flatMap_cons, List.length_append, List.length_cons, List.length_nil] at this ⊢
    omega
theorem keyL_take {ps : List Nat} {k p : Nat} (h : ps[k]? = some p) : Lib.byteCells (keyL (ps.take (k + 1))) = Lib.byteCells (keyL (ps.take k)) ++ Lib.strCells (itoaS p ++ sp) := by
  have e : keyL (ps.take (k + 1)) = keyL (ps.take k) ++ (Lib.itoa (p : Int) ++ [32]) := by
    unfold keyL
    rw [List.take_add_one, h, Option.toList_some, List.flatMap_append]; simp
  rw [e, Lib.byteCells_append]
  congr 1
theorem c129 {v : Value} {ps : List Nat} (w : World) (hT : TB w) (hr : RdL w v nI ps) (hps : ∀ p ∈ ps, p < 1000000) (hb : ps.length ≤ 1000) : CC Tryz.prog 129 [v].toArray w (fun r w' => r = S (keyS ps) ∧ Ext w w') := by
  obtain ⟨w0, e0⟩ : ∃ w0, w0 = w := ⟨w, rfl⟩
  subst e0
  have H := Hd.start w0
  obtain ⟨a, c, rfl⟩ := hr.shape
  refine CC.of (N := 18) Tryz.func129 rfl rfl rfl ?_
  refine WC.seq ?_
  refine WC.region ?_
  refine l_rd rfl rfl (x_assign ev_c) ?_
  refine WL.nil ?_
  refine WC.seq ?_
  refine WC.region ?_
  refine l_st rfl (s_alloc ty290 H fun b3 w H => ?_)
  refine WL.nil ?_
  refine WC.seq ?_
  refine WC.seq ?_
  refine WC.region ?_
  refine l_rd rfl rfl (x_move (by conv => lhs; whnf)) ?_
  refine l_rd rfl rfl (x_lenSlice Tryz.underlying176 rfl rfl) ?_
  refine l_rd rfl rfl (x_move ev_c) ?_
  refine WL.nil ?_
  refine WC.block ?_
  refine WC.loop (fun ρ ds w => ∃ k : Nat, k ≤ ps.length ∧ Lib.IsBuilder 290 5 w0.heap.size b3 (Lib.byteCells (keyL (ps.take k))) w ∧ ρ 8 = I k ∧ ρ 7 = I ps.length ∧ ρ 6 = .slice a ps.length c ∧ ρ 3 = .pointer (some ⟨b3, 0, none⟩) ∧ ds = [] ∧ Hd (sy w0) w [fr w0]) (fun ρ w => ps.length - (match ρ 8 with | .int _ k => k.toNat | _ => 0)) (⟨0, Nat.zero_le _, .inl ⟨Hd.newR H, _, H.obj 0 rfl, ⟨rfl, .inl ⟨rfl, rfl⟩⟩, by simp [Value.ownBlock]⟩, rfl, rfl, rfl, rfl, rfl, H.drop⟩) ?_
  repeat clear H
  rintro ρ ds w ⟨k, hk, hB, h8, h7, h6, h3, rfl, H⟩
  refine WC.seq ?_
  refine WC.region ?_
  refine l_rdD rfl rfl (x_lss h8 h7) (fun h9 => ?_) (fun h9 => ?_)
  ·
    refine WL.nil ?_
    refine WC.seq ?_
    refine WC.cond1 rfl ?_
    refine WC.skip ?_
    refine WC.seq ?_
    refine WC.block ?_
    refine WC.seq ?_
    obtain ⟨p, hp⟩ := lt_get (show k < ps.length by omega)
    have hpm := hps p (List.mem_of_getElem? hp)
    have hp1 : (-9223372036854775808 : Int) ≤ p := by omega
    have hp2 : (p : Int) ≤ 9223372036854775807 := by omega
    obtain ⟨b1, o1, rfl, hc1⟩ := ((H.old 0 rfl).rdL hr).el hp
    refine WC.region ?_
    refine l_rd rfl rfl (x_indexAddr Tryz.underlying176 ty3 h6 h8 (by omega) (by omega)) ?_
    refine l_rd rfl rfl (x_load Tryz.underlying3 rfl rfl hc1) ?_
    refine l_rd rfl rfl (x_assign (by conv => lhs; whnf)) ?_
    refine WL.nil ?_
    refine WC.region ?_
    refine l_rd rfl rfl (x_move (by conv => lhs; whnf)) ?_
    refine l_st rfl (s_callL cal184 (c184 _ (hT.old (H.old 0 rfl)) hp1 hp2) ?_)
    rintro _ w ⟨rfl, e1⟩
    have H := H.ext e1
    refine l_rd rfl rfl (x_addS (a := itoaS p) (b := sp) rfl rfl (by have := itoaS_le p hp1 hp2; have h9 : (sp : ByteArray).size = 1 := rfl; omega)) ?_
    refine l_st rfl (s_callA cal183 (ev_cons h3 (ev_cons rfl rfl)) (c183 (s := itoaS p ++ sp) _ (IsBuilder.ext hB e1) (by have := itoaS_le p hp1 hp2; have := keyL_le (l := ps.take k) (fun p hp => hps p (List.mem_of_mem_take hp)); simp only [byteCells_len, ByteArray.size_append]; have h9 : (sp : ByteArray).size = 1 := rfl; have := List.length_take_le k ps; omega) (H.below 0 rfl).size) ?_)
    rintro _ w ⟨rfl, hB2, hbw⟩
    have H := Hd.startB (H.below 0 rfl) hbw
    refine WL.nil ?_
    refine WC.region ?_
    refine l_rd rfl rfl (x_add h8 rfl (by omega) (by omega)) ?_
    refine l_rd rfl rfl (x_move (by conv => lhs; whnf)) ?_
    refine WL.nil ?_
    refine WC.again (⟨k + 1, by omega, .inr (by rw [keyL_take hp]; exact hB2), rfl, h7, h6, h3, rfl, H⟩) (by show _ - _ < _ - _; rw [h8]; show ps.length - ((k : Int) + 1).toNat < ps.length - (k : Int).toNat; omega)
  ·
    refine WL.nil ?_
    refine WC.seq ?_
    refine WC.cond0 rfl ?_
    refine WC.exit ?_
    refine WC.seq ?_
    refine WC.region ?_
    rw [List.take_of_length_le (show ps.length ≤ k by omega)] at hB
    refine l_st rfl (s_callA cal185 (ev_cons h3 rfl) (c185 _ hB (H.below 0 rfl).size) ?_)
    rintro _ w ⟨rfl, hbw⟩
    have H := Hd.startB (H.below 0 rfl) hbw
    refine l_rd rfl rfl (x_assign (by conv => lhs; whnf)) ?_
    refine WL.nil ?_
    refine WC.ret ?_
    refine atRet ?_
    exact RetM.one rfl (by (conv => lhs; whnf); try rfl) (⟨rfl, H.below 0 rfl⟩)
end Go.Proofs.YteibnmkikdbndaaGreatDoor
