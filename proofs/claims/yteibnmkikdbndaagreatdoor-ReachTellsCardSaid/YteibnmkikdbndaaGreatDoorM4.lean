/-
  What functions of this seat do: contracts, proved by walks, and the plain laws that they need; each with the conditions that it names.
-/
import Derived.Test.YteibnmkikdbndaaGreatDoorM3
set_option linter.unusedVariables false
set_option linter.unusedSimpArgs false
namespace Go.Proofs.YteibnmkikdbndaaGreatDoor
open Go Go.RowKit KE Go.Proofs
theorem ty133 : Ty Tryz.prog 133 (.slice none 0 0) 1 24 := Ty.of (by kernel_rfl)
theorem ty235 : Ty Tryz.prog 235 (.map none) 1 8 := Ty.of (by kernel_rfl)
theorem cal138 : Cal Tryz.prog 138 := ⟨_, Tryz.func138, rfl, by decide⟩
theorem cal191 : Cal Tryz.prog 191 := ⟨_, Tryz.func191, rfl, by decide⟩
theorem cal192 : Cal Tryz.prog 192 := ⟨_, Tryz.func192, rfl, by decide⟩
theorem cal233 : Cal Tryz.prog 233 := ⟨_, Tryz.func233, rfl, by decide⟩
theorem cal234 : Cal Tryz.prog 234 := ⟨_, Tryz.func234, rfl, by decide⟩
abbrev TS : KT Tryz.prog 9 ByteArray := ktS Tryz.prog 9 Tryz.underlying9
abbrev eS : ByteArray → List Value → Hp := fun x vs => fun _ => vs = [S x]
abbrev eR : ByteArray × Nat → List Value → Hp := fun x vs => fun _ => vs = [S x.1, nI x.2]
/-- some of a list's elements in whatever order -/
def okX {α : Type} (l pre : List α) (x : α) : Prop := ∃ rest, (pre ++ x :: rest).Perm l
def finX {α : Type} (l xs : List α) : Prop := xs.Perm l
theorem okX.len {α : Type} {l pre : List α} {x : α} (h : okX l pre x) : pre.length < l.length := by
  obtain ⟨r, h⟩ := h
  have := h.length_eq
  simp only [List.length_append, List.length_cons] at this; omega
theorem okX.mem {α : Type} {l pre : List α} {x : α} (h : okX l pre x) : x ∈ l := by
  obtain ⟨r, h⟩ := h
  exact h.mem_iff.1 (by simp)
theorem perm_mid {α β : Type} {f : α → β} {pre l : List β} {A B : List α} {p : α} (h : (pre ++ (A ++ p :: B).map f).Perm l) : (pre ++ f p :: (A ++ B).map f).Perm l := by
  refine List.Perm.trans ?_ h
  refine List.Perm.append_left pre ?_
  rw [List.map_append, List.map_append, List.map_cons]
  exact List.perm_middle.symm
theorem IRb.rest {P : Program} {kt : TypeId} {κ : Type} [DecidableEq κ] {T : KT P kt κ} {s : Sy} {w : World} {L : List Hp} {J : Hp} {m b : Nat} {es : Array MapEntry} {cl : Nat} {cur : Option (κ × Value)} {rest : List (κ × Value)} (H : Hd s w (J :: IRb T m b es cl cur rest :: L)) : Hd s w (J :: IRb T m b es cl none rest :: L) :=
  Hd.swp (Hd.weak (Hd.swp H) fun h ⟨seen, ⟨h1, _⟩, h3⟩ => ⟨seen, ⟨h1, fun p hp => by cases hp⟩, h3⟩)
/-- a graph in memory that stays -/
def GrG (g : Sub) (rv ev : Value) (G : Gr) : Prop := ∃ ms : List Nat, Fx g (fun w => RdL w rv (fun m => Value.map (some m)) ms ∧ RdL w ev Value.bool G.ends) ∧ ms.length = G.rows.length ∧
  ∀ (i m : Nat) (row : Row), ms[i]? = some m → G.rows[i]? = some row → MpG TS m (row.map (gval nI)) g
theorem GrG.mono {g g' : Sub} {rv ev : Value} {G : Gr} (h : GrG g rv ev G) (k : sle g g') : GrG g' rv ev G := by
  obtain ⟨ms, h1, h2, h3⟩ := h
  exact ⟨ms, h1.mono k, h2, fun i m row a b => (h3 i m row a b).mono k⟩
theorem it233 {s : Sy} {b1 m : Nat} {g : Sub} {row : Row} (hm : MpG TS m (row.map (gval nI)) g) : ITa Tryz.prog s 233 [.pointer (some ⟨b1, 0, none⟩)] eS (okX (row.map (·.1))) (finX (row.map (·.1))) (star (pt b1 (.cells #[.map (some m)] 235 (0, 0))) (fz g)) (fun _ => star (pt b1 (.cells #[.map (some m)] 235 (0, 0))) (fz g)) := by
  obtain ⟨es, cl, hme, hmv, hst⟩ := hm
  intro l J X w L hy H
  have H := Hd.unstarAt [_] H
  refine CC.of (N := 14) Tryz.func233 rfl rfl rfl ?_
  refine WC.seq ?_
  refine WC.region ?_
  refine l_rd rfl rfl (x_load Tryz.underlying235 rfl rfl (H.cellL 1 rfl rfl)) ?_
  refine l_st rfl (s_rangeR TS Tryz.underlying235 ((H.fz 2 rfl) _ _ hme) hmv rfl H (fun bi w H => ?_))
  refine WL.nil ?_
  refine WC.block ?_
  refine WC.loopN (I := fun n ρ w => ∃ (pre : List ByteArray) (rest : List (ByteArray × Value)), n = rest.length ∧ (pre ++ rest.map (·.1)).Perm (row.map (·.1)) ∧ ρ 0 = .func (.yield l) #[] #[] ∧ ρ 5 = .pointer (some ⟨bi, 0, none⟩) ∧ Hd s w (J pre :: IRb TS m bi es cl none rest :: pt b1 (.cells #[.map (some m)] 235 (0, 0)) :: fz g :: L)) (n0 := _) (⟨[], _, rfl, by rw [List.nil_append, keys_g], rfl, rfl, Hd.arrT [_, _, _, _] [1, 0, 2, 3] (by decide) rfl H⟩) ?_
  repeat clear H
  rintro n ρ w ⟨pre, rest, hn, hp, h0, h5, H⟩
  refine WC.seq ?_
  refine WC.region ?_
  refine l_st rfl (s_nextR TS 1 rfl ((H.fz 3 rfl) _ _ hme) hst h5 H (fun p A B w hsp H => ?_) (fun hnil => ?_))
  ·
    subst hsp
    have hpm := perm_mid hp
    refine l_rd rfl rfl (x_extract rfl rfl) ?_
    refine WL.nil ?_
    refine WC.seq ?_
    refine WC.cond1 rfl ?_
    refine WC.skip ?_
    refine WC.block ?_
    refine WC.seq ?_
    refine WC.region ?_
    refine l_rd rfl rfl (x_entryR TS H 1 rfl ((H.fz 3 rfl) _ _ hme) hst h5) ?_
    refine l_rd rfl rfl (x_extract rfl rfl) ?_
    refine l_rd rfl rfl (x_assign (by conv => lhs; whnf)) ?_
    refine WL.nil ?_
    refine WC.seq ?_
    refine WC.region ?_
    refine l_rd rfl rfl (x_move h0) ?_
    refine l_rd rfl rfl (x_move (by conv => lhs; whnf)) ?_
    refine l_st rfl (s_yieldL rfl (hy pre p.1 [S p.1] _ _ ⟨_, hpm⟩ (Hd.swp (Hd.pure rfl H))) ?_)
    rintro v w (⟨rfl, H⟩ | ⟨rfl, H⟩)
    ·
      refine l_rd rfl rfl (x_not rfl) ?_
      refine WL.nil ?_
      refine WC.cond0 rfl ?_
      refine WC.skip ?_
      exact ⟨rfl, (A ++ B).length, by rw [hn]; simp, pre ++ [p.1], A ++ B, rfl, by rw [List.append_assoc]; exact hpm, h0, h5, IRb.rest H⟩
    ·
      refine l_rd rfl rfl (x_not rfl) ?_
      refine WL.nil ?_
      refine WC.cond1 rfl ?_
      refine WC.ret ?_
      refine atRet ?_
      exact RetM.none' rfl (.inr ⟨pre, p.1, ⟨_, hpm⟩, Hd.starAt [_] (Hd.arrT [_, _, _, _] [0, 2, 3] (by decide) rfl H)⟩)
  ·
    subst hnil
    refine l_rd rfl rfl (x_extract rfl rfl) ?_
    refine WL.nil ?_
    refine WC.seq ?_
    refine WC.cond0 rfl ?_
    refine WC.exit ?_
    refine atEnd ?_
    exact RetM.none' rfl (.inl ⟨pre, show List.Perm _ _ by simpa using hp, Hd.starAt [_] (Hd.arrT [_, _, _, _] [0, 2, 3] (by decide) rfl H)⟩)
theorem c191 {s : Sy} [NoEx s] {L : List Hp} {m : Nat} (w : World) (H : Hd s w L) : CC Tryz.prog 191 [.map (some m)].toArray w (fun r w' => ∃ b1 : Nat, r = .func (.func 233) #[] #[.pointer (some ⟨b1, 0, none⟩)] ∧ Hd s w' (pt b1 (.cells #[.map (some m)] 235 (0, 0)) :: L)) := by
  refine CC.of (N := 4) Tryz.func191 rfl rfl rfl ?_
  refine WC.seq ?_
  refine WC.region ?_
  refine l_st rfl (s_box (by conv => lhs; whnf) H fun b1 w H => ?_)
  refine l_rd rfl rfl (x_assign ev_c) ?_
  refine WL.nil ?_
  refine WC.seq ?_
  refine WC.region ?_
  refine l_rd rfl rfl (x_makeFuncL) ?_
  refine l_rd rfl rfl (x_assign (by conv => lhs; whnf)) ?_
  refine WL.nil ?_
  refine WC.ret ?_
  refine atRet ?_
  exact RetM.one rfl (by (conv => lhs; whnf); try rfl) (⟨_, rfl, H⟩)
theorem c234 {s : Sy} [NoEx s] {L : List Hp} {f : FuncId} {caps : List Value} {A : Hp} {B : List ByteArray → Hp} {ok : List ByteArray → ByteArray → Prop} {fin : List ByteArray → Prop} (w : World) (hc : Cal Tryz.prog f) (hit : ITa Tryz.prog s f caps eS ok fin A B) (hlen : ∀ pre x, ok pre x → pre.length < 1000000) (H : Hd s w (A :: L)) : CC Tryz.prog 234 [.slice none 0 0, .func (.func f) #[] caps.toArray].toArray w (fun r w' => ∃ xs, fin xs ∧ Hd s w' (Sl r 9 1 xs.length (xs.map S) :: B xs :: L)) := by
  refine CC.of (N := 13) Tryz.func234 rfl rfl rfl ?_
  refine WC.seq ?_
  refine WC.region ?_
  refine l_st rfl (s_box (by conv => lhs; whnf) H fun b2 w H => ?_)
  refine l_rd rfl rfl (x_assign ev_c) ?_
  refine WL.nil ?_
  refine WC.seq ?_
  refine WC.seq ?_
  refine WC.region ?_
  refine l_rd rfl rfl (x_move (by conv => lhs; whnf)) ?_
  refine WL.nil ?_
  refine WC.block ?_
  have H := PX.mk (α := Value) (φ := fun _ => True) (A := fun v => [pt b2 (.cells #[v] 103 (0, 0)), Sl v 9 1 ([] : List ByteArray).length (([] : List ByteArray).map S)]) (.slice none 0 0) trivial (Hd.arrT [_, _, _] [1, 0, 2] (by decide) rfl (Hd.nil H 9 1))
  refine WC.rangeFnA (P := Tryz.prog) (caps := caps) (E := eS) (ok := ok) (fin := fin) (A := A) (B := B) (I := fun pre => PX (α := Value) (fun _ => True) (fun v => [pt b2 (.cells #[v] 103 (0, 0)), Sl v 9 1 pre.length (pre.map S)])) (X := fun _ _ => fun _ => False) (L := L) rfl hc (by decide) (fun x vs h hv => by have : vs = _ := hv; rw [this]; rfl) hit H ?_ ?_ ?_
  ·
    intro l pre x vs w L' L2 hok hrec H
    obtain ⟨hh, _, hvs⟩ := H.fact_at 1 rfl
    have hvs : vs = [S x] := hvs
    subst hvs
    refine WC.region ?_
    refine l_rd rfl rfl (x_assign (by conv => lhs; whnf)) ?_
    refine WL.nil ?_
    refine ⟨⟨[_, _], H⟩, fun w2 hw2 => ?_⟩
    clear hrec
    have H := Hd.arrT [_, _] [0] (by decide) rfl (hw2 [_, _] H)
    clear hw2
    obtain ⟨v0, -, H⟩ := PX.opn H
    obtain ⟨a0, c0, rfl⟩ := (H.sl 1 rfl).shape
    have hll := hlen pre x hok
    refine WC.block ?_
    refine WC.region ?_
    refine l_rd rfl rfl (x_load Tryz.underlying103 rfl rfl (H.cellL 0 rfl rfl)) ?_
    refine l_rd rfl rfl (x_move (by conv => lhs; whnf)) ?_
    refine l_st rfl (s_build1 Tryz.underlying103 ty9 rfl (by conv => lhs; whnf) rfl H fun b10 w H => ?_)
    refine l_st rfl (s_append Tryz.underlying103 ty9 rfl (by decide) (by decide) rfl 2 rfl rfl rfl (H.sl 0 rfl) (by simp [Value.oneCell']) (by omega) H fun v11 w H => ?_)
    obtain ⟨a11, c11, rfl⟩ := (H.sl 2 rfl).shape
    refine l_no (s_st 1 rfl ty103 rfl (by conv => lhs; whnf) rfl rfl H fun w H => ?_)
    refine WL.nil ?_
    exact PX.mk _ trivial (by rw [len_snoc, List.map_append]; exact Hd.arrT [_, _, _] [1, 2] (by decide) rfl H)
  ·
    intro w m xs hfin H
    obtain ⟨v0, -, H⟩ := PX.opn H
    obtain ⟨a0, c0, rfl⟩ := (H.sl 1 rfl).shape
    refine WC.seq ?_
    refine WC.region ?_
    refine l_rd rfl rfl (x_load Tryz.underlying103 rfl rfl (H.cellL 0 rfl rfl)) ?_
    refine l_rd rfl rfl (x_assign (by conv => lhs; whnf)) ?_
    refine WL.nil ?_
    refine WC.ret ?_
    refine atRet ?_
    refine RetM.mark H (i := 3) rfl (fun w H => ?_)
    exact RetM.one rfl (by (conv => lhs; whnf); try rfl) (⟨xs, hfin, Hd.arrT [_, _, _, _] [1, 2] (by decide) rfl H⟩)
  ·
    intro w m c pre x hok H
    obtain ⟨hh, _, hF⟩ := H.fact_at 0 rfl
    exact hF.elim
theorem c192 {s : Sy} [NoEx s] {L : List Hp} {f : FuncId} {caps : List Value} {A : Hp} {B : List ByteArray → Hp} {ok : List ByteArray → ByteArray → Prop} {fin : List ByteArray → Prop} (w : World) (hc : Cal Tryz.prog f) (hit : ITa Tryz.prog s f caps eS ok fin A B) (hlen : ∀ pre x, ok pre x → pre.length < 1000000) (H : Hd s w (A :: L)) : CC Tryz.prog 192 [.func (.func f) #[] caps.toArray].toArray w (fun r w' => ∃ xs, fin xs ∧ Hd s w' (Sl r 9 1 xs.length (xs.map S) :: B xs :: L)) := by
  refine CC.of (N := 5) Tryz.func192 rfl rfl rfl ?_
  refine WC.seq ?_
  refine WC.region ?_
  refine l_rd rfl rfl (x_assign ev_c) ?_
  refine WL.nil ?_
  refine WC.seq ?_
  refine WC.region ?_
  refine l_rd rfl rfl (x_move (by conv => lhs; whnf)) ?_
  refine l_st rfl (s_callL cal234 (c234 _ hc hit hlen H) ?_)
  rintro v4 w ⟨xs, hfin, H⟩
  refine l_rd rfl rfl (x_assign (by conv => lhs; whnf)) ?_
  refine WL.nil ?_
  refine WC.ret ?_
  refine atRet ?_
  exact RetM.one rfl (by (conv => lhs; whnf); try rfl) (⟨xs, hfin, H⟩)
theorem c138 {s : Sy} [NoEx s] {L : List Hp} {f : FuncId} {caps : List Value} {A : Hp} {B : List ByteArray → Hp} {ok : List ByteArray → ByteArray → Prop} {fin : List ByteArray → Prop} (w : World) (hc : Cal Tryz.prog f) (hit : ITa Tryz.prog s f caps eS ok fin A B) (hlen : ∀ pre x, ok pre x → pre.length < 1000000) (H : Hd s w (A :: L)) : CC Tryz.prog 138 [.func (.func f) #[] caps.toArray].toArray w (fun r w' => ∃ xs, fin xs ∧ Hd s w' (Sl r 9 1 xs.length ((sortS xs).map S) :: B xs :: L)) := by
  refine CC.of (N := 9) Tryz.func138 rfl rfl rfl ?_
  refine WC.seq ?_
  refine WC.region ?_
  refine l_rd rfl rfl (x_assign ev_c) ?_
  refine WL.nil ?_
  refine WC.seq ?_
  refine WC.region ?_
  refine l_rd rfl rfl (x_move (by conv => lhs; whnf)) ?_
  refine l_st rfl (s_callL cal192 (c192 _ hc hit hlen H) ?_)
  rintro v4 w ⟨xs, hfin, H⟩
  refine l_rd rfl rfl (x_assign (by conv => lhs; whnf)) ?_
  refine WL.nil ?_
  refine WC.seq ?_
  refine WC.region ?_
  refine l_rd rfl rfl (x_move (by conv => lhs; whnf)) ?_
  refine l_st rfl (s_callL cal126 (c126 _ H) ?_)
  rintro _ w ⟨rfl, H⟩
  refine WL.nil ?_
  refine WC.seq ?_
  refine WC.region ?_
  refine l_rd rfl rfl (x_move (by conv => lhs; whnf)) ?_
  refine l_rd rfl rfl (x_assign (by conv => lhs; whnf)) ?_
  refine WL.nil ?_
  refine WC.ret ?_
  refine atRet ?_
  exact RetM.one rfl (by (conv => lhs; whnf); try rfl) (⟨xs, hfin, H⟩)
theorem c136 {s : Sy} [NoEx s] {L : List Hp} {a i : Nat} (w : World) (H : Hd s w L) : CC Tryz.prog 136 [.pointer (some ⟨a, 0, none⟩), I i].toArray w (fun r w' => ∃ b1 b2 : Nat, r = .func (.func 190) #[] #[.pointer (some ⟨b1, 0, none⟩), .pointer (some ⟨b2, 0, none⟩)] ∧ Hd s w' (pt b1 (.cells #[.pointer (some ⟨a, 0, none⟩)] 130 (0, 0)) :: pt b2 (.cells #[I i] 3 (0, 0)) :: L)) := by
  refine CC.of (N := 6) Tryz.func136 rfl rfl rfl ?_
  refine WC.seq ?_
  refine WC.region ?_
  refine l_st rfl (s_box (by conv => lhs; whnf) H fun b2 w H => ?_)
  refine l_st rfl (s_box (by conv => lhs; whnf) H fun b3 w H => ?_)
  refine l_rd rfl rfl (x_assign ev_c) ?_
  refine WL.nil ?_
  refine WC.seq ?_
  refine WC.region ?_
  refine l_rd rfl rfl (x_makeFuncL) ?_
  refine l_rd rfl rfl (x_assign (by conv => lhs; whnf)) ?_
  refine WL.nil ?_
  refine WC.ret ?_
  refine atRet ?_
  exact RetM.one rfl (by (conv => lhs; whnf); try rfl) (⟨_, _, rfl, H.swp⟩)
theorem it190 {s : Sy} [NoEx s] {g : Sub} {a i n b1 b2 : Nat} {rv ev : Value} {f0 : Nat × Nat} {G : Gr} {row : Row} {labels : List ByteArray} (hl : okL labels) (hG : GrG g rv ev G) (ha : g a = some (.cells #[rv, ev] 136 f0)) (hr : G.rows[i]? = some row) (hrow : okRow labels n row) : IT Tryz.prog s 190 [.pointer (some ⟨b1, 0, none⟩), .pointer (some ⟨b2, 0, none⟩)] eR row (star (pt b1 (.cells #[.pointer (some ⟨a, 0, none⟩)] 130 (0, 0))) (star (pt b2 (.cells #[I i] 3 (0, 0))) (fz g))) (fun _ => star (pt b1 (.cells #[.pointer (some ⟨a, 0, none⟩)] 130 (0, 0))) (star (pt b2 (.cells #[I i] 3 (0, 0))) (fz g))) := by
  obtain ⟨ms, hF, hlen, hmp⟩ := hG
  have hi : i < ms.length := by rw [hlen]; exact (List.getElem?_eq_some_iff.1 hr).1
  obtain ⟨m, hm⟩ := lt_get hi
  have hmg := hmp i m row hm hr
  have hll := hrow.len hl
  intro l J X w L hy H
  have H := Hd.unstarAt [_, _] (Hd.unstarAt [_] H)
  have hms := (hF.at H 3 rfl).1.le
  obtain ⟨a3, c3, rfl⟩ := (hF.at H 3 rfl).1.shape
  obtain ⟨b3, o3, rfl, -⟩ := (hF.at H 3 rfl).1.el hm
  refine CC.of (N := 34) Tryz.func190 rfl rfl rfl ?_
  refine WC.seq ?_
  refine WC.draw mixed [7, 8] [[], [0], [0, 1], [0, 1, 2], [], [0, 1, 2, 3, 4], [0, 1, 2, 3, 4, 5], [0, 1, 2, 3, 4, 5, 6], [0, 1, 2, 3, 4, 5, 6, 7], [0, 1, 2, 3, 4, 5, 6, 7, 8], []] [0, 1, 2, 3, 4, 5, 6, 10, 7, 8, 9] (by kernel_rfl) ?_
  have H := H.drew
  refine k_rd rfl rfl (RS.of rfl rfl (x_load Tryz.underlying130 rfl rfl (H.cellL 1 rfl rfl))) ?_
  refine k_rd rfl rfl (RS.of rfl rfl (x_nilCheck rfl)) ?_
  refine k_rd rfl rfl (RS.of rfl rfl (x_fieldAddr (k := 0) Tryz.underlying136 rfl rfl ty133 (by decide) rfl)) ?_
  refine k_rd rfl rfl (RS.of rfl rfl (x_load Tryz.underlying133 rfl rfl (cell_ofL ((H.fz 3 rfl) _ _ ha) rfl))) ?_
  refine k_rd rfl rfl (RS.of rfl rfl (x_load Tryz.underlying3 rfl rfl (H.cellL 2 rfl rfl))) ?_
  refine k_rd rfl rfl (RS.of rfl rfl (x_indexAddr Tryz.underlying133 ty235 rfl rfl (by omega) (by omega))) ?_
  refine k_rd rfl rfl (RS.of rfl rfl (x_load Tryz.underlying235 rfl rfl ((hF.at H 3 rfl).1.at_ hm))) ?_
  refine k_rd rfl rfl (RS.of rfl rfl (x_move ev_c)) ?_
  refine k_st rfl rfl rfl (s_callL cal191 (c191 _ H) ?_)
  rintro _ w ⟨k1, rfl, H⟩
  refine ⟨⟨RS.of rfl rfl (x_move ev_c), ⟨trivial, ⟨trivial, ⟨trivial, ⟨trivial, ⟨trivial, ⟨trivial, ⟨trivial, trivial⟩⟩⟩⟩⟩⟩⟩⟩, ?_⟩
  refine k_st rfl rfl rfl (s_callL cal138 (c138 _ cal233 (it233 hmg) (fun pre x h => by have := h.len; rw [List.length_map] at this; have := hrow.len hl; omega) (Hd.star (Hd.arrT [_, _, _, _, _] [0, 4, 1, 2, 3] (by decide) rfl H))) ?_)
  rintro v14 w ⟨xs, hfin, H⟩
  have H := Hd.unstarAt [_] H
  rw [show sortS xs = row.map (·.1) from sort_eq hfin (hrow.inO hl), show xs.length = (row.map (·.1)).length from hfin.length_eq] at H
  obtain ⟨a14, c14, rfl⟩ := (H.sl 0 rfl).shape
  refine ⟨⟨RS.of rfl rfl (x_move ev_c), ⟨trivial, ⟨trivial, ⟨trivial, ⟨trivial, ⟨trivial, ⟨trivial, ⟨trivial, trivial⟩⟩⟩⟩⟩⟩⟩⟩, ?_⟩
  refine k_rd rfl rfl (RS.of rfl rfl (x_lenSlice Tryz.underlying103 rfl rfl)) ?_
  show _
  refine WC.block ?_
  refine WC.loop (fun ρ ds w => ∃ k : Nat, k ≤ row.length ∧ ρ 16 = I k ∧ ρ 15 = I row.length ∧ ρ 14 = .slice a14 row.length c14 ∧ ρ 0 = .func (.yield l) #[] #[] ∧ ρ 1 = .pointer (some ⟨b1, 0, none⟩) ∧ ρ 2 = .pointer (some ⟨b2, 0, none⟩) ∧ ds = [] ∧ Hd s w (J (row.take k) :: Sl (.slice a14 row.length c14) 9 1 row.length (row.map fun p => S p.1) :: pt b1 (.cells #[.pointer (some ⟨a, 0, none⟩)] 130 (0, 0)) :: pt b2 (.cells #[I i] 3 (0, 0)) :: fz g :: L)) (fun ρ w => row.length - (match ρ 16 with | .int _ k => k.toNat | _ => 0)) (⟨0, Nat.zero_le _, rfl, by rw [List.length_map] at H ⊢; rfl, by rw [List.length_map]; rfl, rfl, rfl, rfl, rfl, by rw [List.length_map, List.map_map] at H; exact Hd.arrT [_, _, _, _, _, _] [3, 0, 4, 5, 2] (by decide) rfl H⟩) ?_
  repeat clear H
  rintro ρ ds w ⟨k, hk, h16, h15, h14, h0, h1, h2, rfl, H⟩
  refine WC.seq ?_
  refine WC.region ?_
  refine l_rdD rfl rfl (x_lss h16 h15) (fun h17 => ?_) (fun h17 => ?_)
  ·
    refine WL.nil ?_
    refine WC.seq ?_
    refine WC.cond1 rfl ?_
    refine WC.skip ?_
    refine WC.seq ?_
    refine WC.block ?_
    refine WC.seq ?_
    obtain ⟨x, hx⟩ := lt_get (show k < row.length by omega)
    obtain ⟨b4, o4, rfl, hc4⟩ := (show RdL w (.slice a14 row.length c14) (fun p : ByteArray × Nat => S p.1) row from H.sl 1 rfl).el hx
    have hsp : row = row.take k ++ x :: row.drop (k + 1) := by rw [← drop_at hx, List.take_append_drop]
    refine WC.region ?_
    refine l_rd rfl rfl (x_indexAddr Tryz.underlying103 ty9 h14 h16 (by omega) (by omega)) ?_
    refine l_rd rfl rfl (x_load Tryz.underlying9 rfl rfl hc4) ?_
    refine l_rd rfl rfl (x_assign (by conv => lhs; whnf)) ?_
    refine WL.nil ?_
    refine WC.seq ?_
    refine WC.draw mixed [11] [[], [], [], [2], [2, 3], [2, 3, 4], [], [2, 3, 4, 5, 6], [2, 3, 4, 5, 6, 7], [], [2, 3, 4, 5, 6, 7, 8, 9], [0, 1, 2, 3, 4, 5, 6, 7, 8, 9, 10], [0, 1, 2, 3, 4, 5, 6, 7, 8, 9, 10, 11]] [0, 1, 2, 3, 4, 5, 6, 7, 8, 9, 10, 11, 12] (by kernel_rfl) ?_
    have H := H.drew
    refine k_rd rfl rfl (RS.of rfl rfl (x_move h0)) ?_
    refine k_rd rfl rfl (RS.of rfl rfl (x_move (by conv => lhs; whnf))) ?_
    refine k_rd rfl rfl (RS.of rfl rfl (x_load Tryz.underlying130 rfl h1 (H.cellL 2 rfl rfl))) ?_
    refine k_rd rfl rfl (RS.of rfl rfl (x_nilCheck rfl)) ?_
    refine k_rd rfl rfl (RS.of rfl rfl (x_fieldAddr (k := 0) Tryz.underlying136 rfl rfl ty133 (by decide) rfl)) ?_
    refine k_rd rfl rfl (RS.of rfl rfl (x_load Tryz.underlying133 rfl rfl (cell_ofL ((H.fz 4 rfl) _ _ ha) rfl))) ?_
    refine k_rd rfl rfl (RS.of rfl rfl (x_load Tryz.underlying3 rfl h2 (H.cellL 3 rfl rfl))) ?_
    refine k_rd rfl rfl (RS.of rfl rfl (x_indexAddr Tryz.underlying133 ty235 rfl rfl (by omega) (by omega))) ?_
    refine k_rd rfl rfl (RS.of rfl rfl (x_load Tryz.underlying235 rfl rfl ((hF.at H 4 rfl).1.at_ hm))) ?_
    refine k_rd rfl rfl (RS.of rfl rfl (x_move (by conv => lhs; whnf))) ?_
    refine k_rd rfl rfl (RS.of rfl rfl (x_lookR TS Tryz.underlying235 ty3 rfl rfl (hmg.rd (H.fz 4 rfl)) (show _ = nI x.2 by rw [alook_g, mem_glook (hrow.nodup hl) (List.mem_of_getElem? hx)]; rfl))) ?_
    refine k_st rfl rfl rfl (s_yieldL rfl (hy (row.take k) x (row.drop (k + 1)) [S x.1, nI x.2] _ _ hsp (Hd.swp (Hd.pure rfl H))) ?_)
    rintro v w (⟨rfl, H⟩ | ⟨rfl, H⟩)
    ·
      refine ⟨⟨trivial, ⟨trivial, ⟨trivial, ⟨trivial, ⟨trivial, ⟨trivial, ⟨trivial, ⟨trivial, ⟨trivial, ⟨trivial, ⟨trivial, trivial⟩⟩⟩⟩⟩⟩⟩⟩⟩⟩⟩, ?_⟩
      refine k_rd rfl rfl (RS.of rfl rfl (x_not rfl)) ?_
      show _
      refine WC.cond0 rfl ?_
      refine WC.skip ?_
      refine WC.region ?_
      refine l_rd rfl rfl (x_add h16 rfl (by omega) (by omega)) ?_
      refine l_rd rfl rfl (x_move (by conv => lhs; whnf)) ?_
      refine WL.nil ?_
      refine WC.again (⟨k + 1, by omega, rfl, h15, h14, h0, h1, h2, rfl, by rw [show row.take (k + 1) = row.take k ++ [x] by rw [List.take_add_one, hx]; rfl]; exact H⟩) (by show _ - _ < _ - _; rw [h16]; show row.length - ((k : Int) + 1).toNat < row.length - (k : Int).toNat; omega)
    ·
      refine ⟨⟨trivial, ⟨trivial, ⟨trivial, ⟨trivial, ⟨trivial, ⟨trivial, ⟨trivial, ⟨trivial, ⟨trivial, ⟨trivial, ⟨trivial, trivial⟩⟩⟩⟩⟩⟩⟩⟩⟩⟩⟩, ?_⟩
      refine k_rd rfl rfl (RS.of rfl rfl (x_not rfl)) ?_
      show _
      refine WC.cond1 rfl ?_
      refine WC.ret ?_
      refine atRet ?_
      exact RetM.none' rfl (.inr ⟨row.take k, x, _, hsp, Hd.starAt [_] (Hd.starAt [_, _] (Hd.arrT [_, _, _, _, _] [0, 2, 3, 4] (by decide) rfl H))⟩)
  ·
    refine WL.nil ?_
    refine WC.seq ?_
    refine WC.cond0 rfl ?_
    refine WC.exit ?_
    refine atEnd ?_
    exact RetM.none' rfl (.inl (by rw [List.take_of_length_le (show row.length ≤ k by omega)] at H; exact Hd.starAt [_] (Hd.starAt [_, _] (Hd.arrT [_, _, _, _, _] [0, 2, 3, 4] (by decide) rfl H))))
theorem cal131 : Cal Tryz.prog 131 := ⟨_, Tryz.func131, rfl, by decide⟩
theorem cal132 : Cal Tryz.prog 132 := ⟨_, Tryz.func132, rfl, by decide⟩
theorem cal189 : Cal Tryz.prog 189 := ⟨_, Tryz.func189, rfl, by decide⟩
theorem contains_cast (xs : List Nat) (x : Nat) : (xs.map fun n : Nat => (n : Int)).contains (x : Int) = xs.contains x := by
  induction xs with
  | nil => rfl
  | cons a l ih =>
    rw [List.map_cons, List.contains_cons, List.contains_cons, ih]
    congr 1
    by_cases h : x = a
    · subst h; rw [beq_self_eq_true, beq_self_eq_true]
    · rw [beq_eq_false_iff_ne.2 h, beq_eq_false_iff_ne.2 (by omega)]
theorem c132 {v : Value} {xs : List Nat} {x : Nat} (w : World) (hr : RdL w v nI xs) : CC Tryz.prog 132 [v, nI x].toArray w (fun r w' => r = .bool (xs.contains x) ∧ Ext w w') := by
  refine CC.of_calls ?_
  obtain ⟨a, c, rfl⟩ := hr.shape
  cases xs with
  | nil => exact (Tryz.slices_Contains_int_empty a c x w).mono fun e w' ⟨he, hw⟩ => ⟨_, he, rfl, hw ▸ Ext.refl _⟩
  | cons y r =>
    obtain ⟨b, o, rfl, -⟩ := hr.el (show (y :: r)[0]? = some y from rfl)
    have := Tryz.slices_Contains_int b o (y :: r).length c ((y :: r).map fun n : Nat => (n : Int)) (x : Int) w (by simp) (by have := hr.le; omega) (fun j hj => by
      rw [List.length_map] at hj
      have := hr.at_ (List.getElem?_eq_getElem hj)
      rw [Nat.mul_one] at this
      rw [this, List.getD_eq_getElem?_getD, List.getElem?_map, List.getElem?_eq_getElem hj]; rfl)
    refine this.mono fun e w' ⟨he, hw⟩ => ⟨_, he, ?_, hw ▸ Ext.refl _⟩
    rw [List.take_of_length_le (by simp), contains_cast]
theorem c131 {b6 p : Nat} {f0 : Nat × Nat} {lv : Value} {last : List Nat} (w : World) (hb : w.heap[b6]? = some (.cells #[lv] 176 f0)) (hr : RdL w lv nI last) : CC Tryz.prog 131 [nI p, .pointer (some ⟨b6, 0, none⟩)].toArray w (fun r w' => r = .bool (last.contains p) ∧ Ext w w') := by
  obtain ⟨w0, e0⟩ : ∃ w0, w0 = w := ⟨w, rfl⟩
  subst e0
  have H := Hd.start w0
  refine CC.of (N := 7) Tryz.func131 rfl rfl rfl ?_
  refine WC.seq ?_
  refine WC.region ?_
  refine l_rd rfl rfl (x_assign ev_c) ?_
  refine WL.nil ?_
  refine WC.seq ?_
  refine WC.region ?_
  refine l_rd rfl rfl (x_load Tryz.underlying176 rfl rfl (cell_ofL ((H.old 0 rfl) _ _ hb) rfl)) ?_
  refine l_rd rfl rfl (x_move (by conv => lhs; whnf)) ?_
  refine l_st rfl (s_callL cal132 (c132 _ ((H.old 0 rfl).rdL hr)) ?_)
  rintro _ w ⟨rfl, e1⟩
  have H := H.ext e1
  refine l_rd rfl rfl (x_assign (by conv => lhs; whnf)) ?_
  refine WL.nil ?_
  refine WC.ret ?_
  refine atRet ?_
  exact RetM.one rfl (by (conv => lhs; whnf); try rfl) (⟨rfl, H.below 0 rfl⟩)
theorem c189 {v : Value} {xs : List Nat} {p : Nat → Bool} {fid : Nat} {caps : List Value} (w : World) (hx : RdL w v nI xs) (hc : Cal Tryz.prog fid) (hp : ∀ x ∈ xs, ∀ w1, Ext w w1 → CC Tryz.prog fid (nI x :: caps).toArray w1 (fun r w' => r = .bool (p x) ∧ Ext w1 w')) : CC Tryz.prog 189 [v, .func (.func fid) #[] caps.toArray].toArray w (fun r w' => ∃ j : Int, r = I j ∧ (0 ≤ j ↔ xs.any p = true) ∧ Ext w w') := by
  obtain ⟨w0, e0⟩ : ∃ w0, w0 = w := ⟨w, rfl⟩
  subst e0
  have H := Hd.start w0
  obtain ⟨a, c, rfl⟩ := hx.shape
  have hle := hx.le
  refine CC.of (N := 19) Tryz.func189 rfl rfl rfl ?_
  refine WC.seq ?_
  refine WC.region ?_
  refine l_rd rfl rfl (x_assign ev_c) ?_
  refine WL.nil ?_
  refine WC.seq ?_
  refine WC.seq ?_
  refine WC.region ?_
  refine l_rd rfl rfl (x_move (by conv => lhs; whnf)) ?_
  refine l_rd rfl rfl (x_lenSlice Tryz.underlying176 rfl rfl) ?_
  refine l_rd rfl rfl (x_move ev_c) ?_
  refine WL.nil ?_
  refine WC.block ?_
  refine WC.loop (fun ρ ds w => ∃ k : Nat, k ≤ xs.length ∧ (∀ j x, j < k → xs[j]? = some x → p x = false) ∧ ρ 8 = I k ∧ ρ 7 = I xs.length ∧ ρ 0 = .slice a xs.length c ∧ ρ 1 = .func (.func fid) #[] caps.toArray ∧ ds = [] ∧ Hd (sy w0) w [fr w0]) (fun ρ w => xs.length - (match ρ 8 with | .int _ k => k.toNat | _ => 0)) (⟨0, Nat.zero_le _, fun j x h => absurd h (by omega), rfl, rfl, rfl, rfl, rfl, H⟩) ?_
  repeat clear H
  rintro ρ ds w ⟨k, hk, hno, h8, h7, h0, h1, rfl, H⟩
  refine WC.seq ?_
  refine WC.region ?_
  refine l_rdD rfl rfl (x_lss h8 h7) (fun h9 => ?_) (fun h9 => ?_)
  ·
    refine WL.nil ?_
    refine WC.seq ?_
    refine WC.cond1 rfl ?_
    refine WC.skip ?_
    refine WC.seq ?_
    refine WC.block ?_
    refine WC.seq ?_
    refine WC.region ?_
    refine l_rd rfl rfl (x_move h8) ?_
    refine l_rd rfl rfl (x_assign (by conv => lhs; whnf)) ?_
    refine WL.nil ?_
    refine WC.seq ?_
    obtain ⟨x, hxk⟩ := lt_get (show k < xs.length by omega)
    obtain ⟨b1, o1, rfl, hc1⟩ := ((H.old 0 rfl).rdL hx).el hxk
    refine WC.region ?_
    refine l_rd rfl rfl (x_move h1) ?_
    refine l_rd rfl rfl (x_move h0) ?_
    refine l_rd rfl rfl (x_move (by conv => lhs; whnf)) ?_
    refine l_rd rfl rfl (x_indexAddr Tryz.underlying176 ty3 rfl rfl (by omega) (by omega)) ?_
    refine l_rd rfl rfl (x_load Tryz.underlying3 rfl rfl hc1) ?_
    refine l_st rfl (s_callvL (caps := caps) rfl hc (hp x (List.mem_of_getElem? hxk) _ (H.below 0 rfl)) ?_)
    rintro r w ⟨hr1, e1⟩
    have H := H.ext e1
    cases hpx : p x
    ·
      rw [hpx] at hr1
      subst hr1
      refine WL.nil ?_
      refine WC.cond0 rfl ?_
      refine WC.skip ?_
      refine WC.region ?_
      refine l_rd rfl rfl (x_add h8 rfl (by omega) (by omega)) ?_
      refine l_rd rfl rfl (x_move (by conv => lhs; whnf)) ?_
      refine WL.nil ?_
      refine WC.again (⟨k + 1, by omega, fun j y hj hy => by rcases Nat.lt_succ_iff_lt_or_eq.1 hj with h | rfl; exact hno j y h hy; rw [hxk] at hy; cases hy; exact hpx, rfl, h7, h0, h1, rfl, H⟩) (by show _ - _ < _ - _; rw [h8]; show xs.length - ((k : Int) + 1).toNat < xs.length - (k : Int).toNat; omega)
    ·
      rw [hpx] at hr1
      subst hr1
      refine WL.nil ?_
      refine WC.cond1 rfl ?_
      refine WC.seq ?_
      refine WC.region ?_
      refine l_rd rfl rfl (x_move (by conv => lhs; whnf)) ?_
      refine l_rd rfl rfl (x_assign (by conv => lhs; whnf)) ?_
      refine WL.nil ?_
      refine WC.ret ?_
      refine atRet ?_
      exact RetM.one rfl (by (conv => lhs; whnf); try rfl) (⟨_, rfl, ⟨fun _ => List.any_eq_true.2 ⟨x, List.mem_of_getElem? hxk, hpx⟩, fun _ => by omega⟩, H.below 0 rfl⟩)
  ·
    refine WL.nil ?_
    refine WC.seq ?_
    refine WC.cond0 rfl ?_
    refine WC.exit ?_
    refine WC.seq ?_
    refine WC.region ?_
    refine l_rd rfl rfl (x_assign ev_c) ?_
    refine WL.nil ?_
    refine WC.ret ?_
    refine atRet ?_
    exact RetM.one rfl (by (conv => lhs; whnf); try rfl) (⟨_, rfl, ⟨fun h => absurd h (by decide), fun h => by obtain ⟨x, hx1, hx2⟩ := List.any_eq_true.1 h; obtain ⟨j, hj, e⟩ := List.mem_iff_getElem.1 hx1; rw [hno j x (by omega) (by rw [List.getElem?_eq_getElem hj, e])] at hx2; cases hx2⟩, H.below 0 rfl⟩)
theorem c134 {v : Value} {xs : List Nat} {p : Nat → Bool} {fid : Nat} {caps : List Value} (w : World) (hx : RdL w v nI xs) (hc : Cal Tryz.prog fid) (hp : ∀ x ∈ xs, ∀ w1, Ext w w1 → CC Tryz.prog fid (nI x :: caps).toArray w1 (fun r w' => r = .bool (p x) ∧ Ext w1 w')) : CC Tryz.prog 134 [v, .func (.func fid) #[] caps.toArray].toArray w (fun r w' => r = .bool (xs.any p) ∧ Ext w w') := by
  obtain ⟨w0, e0⟩ : ∃ w0, w0 = w := ⟨w, rfl⟩
  subst e0
  have H := Hd.start w0
  refine CC.of (N := 9) Tryz.func134 rfl rfl rfl ?_
  refine WC.seq ?_
  refine WC.region ?_
  refine l_rd rfl rfl (x_assign ev_c) ?_
  refine WL.nil ?_
  refine WC.seq ?_
  refine WC.region ?_
  refine l_rd rfl rfl (x_move (by conv => lhs; whnf)) ?_
  refine l_rd rfl rfl (x_move (by conv => lhs; whnf)) ?_
  refine l_st rfl (s_callL cal189 (c189 (fid := fid) (caps := caps) (p := p) _ hx hc hp) ?_)
  rintro _ w ⟨j, rfl, hj, e1⟩
  have H := H.ext e1
  refine l_rdD rfl rfl (x_geq rfl rfl) (fun h8 => ?_) (fun h8 => ?_)
  ·
    refine l_rd rfl rfl (x_assign (by conv => lhs; whnf)) ?_
    refine WL.nil ?_
    refine WC.ret ?_
    refine atRet ?_
    exact RetM.one rfl (by (conv => lhs; whnf); try rfl) (⟨by rw [hj.1 h8], H.below 0 rfl⟩)
  ·
    refine l_rd rfl rfl (x_assign (by conv => lhs; whnf)) ?_
    refine WL.nil ?_
    refine WC.ret ?_
    refine atRet ?_
    exact RetM.one rfl (by (conv => lhs; whnf); try rfl) (⟨by rw [Bool.eq_false_iff.2 (fun h => h8 (hj.2 h))], H.below 0 rfl⟩)
theorem ty134 : Ty Tryz.prog 134 (.slice none 0 0) 1 24 := Ty.of (by kernel_rfl)
theorem ty136 : Ty Tryz.prog 136 (.agg #[(.slice none 0 0), (.slice none 0 0)]) 2 48 := Ty.of (by kernel_rfl)
theorem cal128 : Cal Tryz.prog 128 := ⟨_, Tryz.func128, rfl, by decide⟩
theorem cal129 : Cal Tryz.prog 129 := ⟨_, Tryz.func129, rfl, by decide⟩
theorem cal130 : Cal Tryz.prog 130 := ⟨_, Tryz.func130, rfl, by decide⟩
theorem cal133 : Cal Tryz.prog 133 := ⟨_, Tryz.func133, rfl, by decide⟩
theorem cal134 : Cal Tryz.prog 134 := ⟨_, Tryz.func134, rfl, by decide⟩
theorem knownF_snoc0 {l : List (List Nat)} {to : List Nat} : knownF 0 l ++ [(keyS to, l.length)] = knownF 0 (l ++ [to]) := by rw [knownF_snoc, Nat.zero_add]
abbrev vI (v : Value) : Value := v
abbrev mI (m : Nat) : Value := .map (some m)
def stepN (st : Ns) (cur : List Nat) (l : ByteArray) : List Nat := bitsF (stepF st.1 st.2 (setF st.1.length cur) l)
def finN (la : Nat) (em : Bool) (i : Nat) (cur : List Nat) : Bool := (decide (i = 0) && em) || cur.any fun p => (bitsF la).contains p
def ΦS (s : List Nat) : Prop := s.length ≤ 24 ∧ ∀ p ∈ s, p ≤ 24
theorem stepN_ok {st : Ns} (h : okN st) (cur : List Nat) (l : ByteArray) : ΦS (stepN st cur l) := by
  have := stepF_ok (labs := st.1) h.2.2 (setF st.1.length cur) l
  exact ⟨bits_25 this h.2.1, fun p hp => by have := (this.bits hp).2; have := h.2.1; omega⟩
/-- what lies where -/
def SetsG (g : KE.Sub) (all : List (List Nat)) (vals : List Value) (rows : List Row) (ms : List Nat) : Prop := vals.length = all.length ∧ (∀ (i : Nat) (v : Value) (s : List Nat), vals[i]? = some v → all[i]? = some s → Fx g (fun w => RdL w v nI s)) ∧
  ms.length = rows.length ∧ ∀ (i m : Nat) (row : Row), ms[i]? = some m → rows[i]? = some row → MpG TS m (row.map (gval nI)) g
theorem SetsG.mono {g g' : KE.Sub} {all : List (List Nat)} {vals : List Value} {rows : List Row} {ms : List Nat} (h : SetsG g all vals rows ms) (k : sle g g') : SetsG g' all vals rows ms :=
  ⟨h.1, fun i v s a b => (h.2.1 i v s a b).mono k, h.2.2.1, fun i m row a b => (h.2.2.2 i m row a b).mono k⟩
theorem get_snoc {α : Type} {l : List α} {x y : α} {i : Nat} (h : (l ++ [x])[i]? = some y) : l[i]? = some y ∨ (i = l.length ∧ y = x) := by
  rw [List.getElem?_append] at h
  split at h
  · exact .inl h
  · rename_i hi
    rcases Nat.eq_or_lt_of_le (Nat.not_lt.1 hi) with e | e
    · subst e; simp at h; exact .inr ⟨rfl, h.symm⟩
    · rw [List.getElem?_eq_none (by simp; omega)] at h; cases h
theorem SetsG.snocA {g : KE.Sub} {all : List (List Nat)} {vals : List Value} {rows : List Row} {ms : List Nat} {v : Value} {s : List Nat} (h : SetsG g all vals rows ms) (hv : Fx g (fun w => RdL w v nI s)) : SetsG g (all ++ [s]) (vals ++ [v]) rows ms := by
  refine ⟨by simp [h.1], fun i v' s' a b => ?_, h.2.2⟩
  rcases get_snoc a with a | ⟨a, rfl⟩ <;> rcases get_snoc b with b | ⟨b, rfl⟩
  · exact h.2.1 i v' s' a b
  · have := (List.getElem?_eq_some_iff.1 a).1; have := h.1; omega
  · have := (List.getElem?_eq_some_iff.1 b).1; have := h.1; omega
  · exact hv
theorem SetsG.snocR {g : KE.Sub} {all : List (List Nat)} {vals : List Value} {rows : List Row} {ms : List Nat} {m : Nat} {row : Row} (h : SetsG g all vals rows ms) (hv : MpG TS m (row.map (gval nI)) g) : SetsG g all vals (rows ++ [row]) (ms ++ [m]) := by
  refine ⟨h.1, h.2.1, by simp [h.2.2.1], fun i m' row' a b => ?_⟩
  rcases get_snoc a with a | ⟨a, rfl⟩ <;> rcases get_snoc b with b | ⟨b, rfl⟩
  · exact h.2.2.2 i m' row' a b
  · have := (List.getElem?_eq_some_iff.1 a).1; have := h.2.2.1; omega
  · have := (List.getElem?_eq_some_iff.1 b).1; have := h.2.2.1; omega
  · exact hv
theorem setsS_skip {step : List Nat → ByteArray → List Nat} {cur : List Nat} {a : List (List Nat) × Row} {l : ByteArray} (h : step cur l = []) : setsS step cur a l = a := by unfold setsS; rw [if_pos h]
theorem setsS_old {step : List Nat → ByteArray → List Nat} {cur : List Nat} {a : List (List Nat) × Row} {l : ByteArray} {j : Nat} (h : step cur l ≠ []) (k : glook (keyS (step cur l)) (knownF 0 a.1) = some j) : setsS step cur a l = (a.1, gset l j a.2) := by unfold setsS; rw [if_neg h, k]
theorem setsS_new {step : List Nat → ByteArray → List Nat} {cur : List Nat} {a : List (List Nat) × Row} {l : ByteArray} (h : step cur l ≠ []) (k : glook (keyS (step cur l)) (knownF 0 a.1) = none) : setsS step cur a l = (a.1 ++ [step cur l], gset l a.1.length a.2) := by unfold setsS; rw [if_neg h, k]
structure SO (step : List Nat → ByteArray → List Nat) (labels : List ByteArray) (fin : Nat → List Nat → Bool) (at_ : Nat) (all : List (List Nat)) (rows : List Row) (ends : List Bool) (vals : List Value) (ms : List Nat) (g : KE.Sub) : Prop where
  go : setsF step labels fin = setsGo step labels fin (258 - at_) at_ all ⟨rows, ends⟩
  le : all.length ≤ 256
  here : at_ ≤ all.length
  rl : rows.length = at_
  el : ends.length = at_
  vl : SetsG g all vals rows ms
  Φ : ∀ s ∈ all, ΦS s
theorem SO.start (step : List Nat → ByteArray → List Nat) (labels : List ByteArray) (fin : Nat → List Nat → Bool) {g : KE.Sub} {v : Value} (h : Fx g (fun w => RdC w v 1 1 [.int .i64 0])) : SO step labels fin 0 [[0]] [] [] [v] [] g :=
  ⟨rfl, by decide, by decide, rfl, rfl, ⟨rfl, fun i v' s a b => by
    cases i with
    | zero => simp at a b; subst a b; exact h
    | succ i => simp at a, rfl, fun i m row a _ => by simp at a⟩, fun s hs => by have := List.mem_singleton.1 hs; subst this; exact ⟨by decide, fun p hp => by have := List.mem_singleton.1 hp; omega⟩⟩
section
variable {step : List Nat → ByteArray → List Nat} {labels : List ByteArray} {fin : Nat → List Nat → Bool} {at_ : Nat} {all : List (List Nat)} {rows : List Row} {ends : List Bool} {vals : List Value} {ms : List Nat} {g : KE.Sub}
theorem SO.done (h : SO step labels fin at_ all rows ends vals ms g) (hn : ¬ at_ < all.length) : setsF step labels fin = some ⟨rows, ends⟩ := by
  have hl := h.le; have hh := h.here
  rw [h.go, show 258 - at_ = (257 - at_) + 1 by omega, setsGo, List.getElem?_eq_none (by omega)]
theorem SO.big (h : SO step labels fin at_ all rows ends vals ms g) {cur : List Nat} (hc : all[at_]? = some cur) (hb : 256 < (setsL step cur labels all).1.length) : setsF step labels fin = none := by
  have hl := h.le; have hh := h.here
  rw [h.go, show 258 - at_ = (257 - at_) + 1 by omega, setsGo, hc]
  simp only []
  rw [if_pos hb]
theorem SO.next (h : SO step labels fin at_ all rows ends vals ms g) {cur : List Nat} {g2 : KE.Sub} {vals2 : List Value} {ms2 : List Nat} {e : Bool} (hc : all[at_]? = some cur) (hb : ¬ 256 < (setsL step cur labels all).1.length) (he : e = fin at_ cur)
    (hv : SetsG g2 (setsL step cur labels all).1 vals2 (rows ++ [(setsL step cur labels all).2]) ms2) (hn : labels.Nodup) (hΦ : ∀ l ∈ labels, ΦS (step cur l)) : SO step labels fin (at_ + 1) (setsL step cur labels all).1 (rows ++ [(setsL step cur labels all).2]) (ends ++ [e]) vals2 ms2 g2 := by
  have hl := h.le; have hh := h.here
  have hlt := (List.getElem?_eq_some_iff.1 hc).1
  have hI := setsI.all (Φ := ΦS) (step := step) (cur := cur) hn h.Φ hΦ labels.length (Nat.le_refl _)
  rw [List.take_length] at hI
  obtain ⟨⟨tl, e1, e2⟩, e3, e4⟩ := hI
  have e1 : (setsL step cur labels all).1 = all ++ tl := e1
  refine ⟨?_, by omega, by rw [e1, List.length_append]; omega, by simp [h.rl], by simp [h.el], hv, e3⟩
  rw [h.go, show 258 - at_ = (258 - (at_ + 1)) + 1 by omega, setsGo, hc]
  simp only []
  rw [if_neg hb, he]
theorem SO.graph (h : SO step labels fin at_ all rows ends vals ms g) {g3 : KE.Sub} {rv ev : Value} (k : sle g g3) (h1 : Fx g3 (fun w => RdC w rv 1 rows.length (ms.map mI))) (h2 : Fx g3 (fun w => RdC w ev 1 ends.length (ends.map Value.bool))) : GrG g3 rv ev ⟨rows, ends⟩ :=
  ⟨ms, fun w hw => ⟨by unfold RdL; rw [h.vl.2.2.1]; exact h1 w hw, h2 w hw⟩, h.vl.2.2.1, fun i m row a b => (h.vl.2.2.2 i m row a b).mono k⟩
end
theorem c67 {s : Sy} [NoEx s] {L : List Hp} {w0 : World} {n la : Nat} {em : Bool} {st : Ns} {labels : List ByteArray} {labv : Value} (w : World) (hT : TB w0) (hl : okL labels) (hok : okN st) (hla : okS st.1.length la) (H : Hd s w (nfP n st la em :: Sl labv 9 1 labels.length (labels.map S) :: fr w0 :: L)) : CC Tryz.prog 67 [.pointer (some ⟨n, 0, none⟩), labv].toArray w (fun r w' => (setsF (stepN st) labels (finN la em) = none ∧ r = .tuple #[.pointer none, .bool false] ∧ Hd s w' (Sl labv 9 1 labels.length (labels.map S) :: fr w0 :: L)) ∨ ∃ (G : Gr) (a : Nat) (rv ev : Value) (g : KE.Sub), setsF (stepN st) labels (finN la em) = some G ∧ r = .tuple #[.pointer (some ⟨a, 0, none⟩), .bool true] ∧ g a = some (.cells #[rv, ev] 136 (0, 0)) ∧ GrG g rv ev G ∧ Hd s w' (fz g :: Sl labv 9 1 labels.length (labels.map S) :: fr w0 :: L)) := by
  obtain ⟨ba, bc, rfl⟩ := (H.sl 1 rfl).shape
  obtain ⟨v0, -, H⟩ := PX.opn H
  obtain ⟨va, vc, rfl⟩ := (show Hd s w (_ :: Sl v0 9 1 st.1.length (st.1.map S) :: _) from H).sl 1 rfl |>.shape
  have H : Hd s w (pt n (.cells (nfaC (.slice va st.1.length vc) st.2 la em).toArray 224 (0, 0)) :: Sl (.slice va st.1.length vc) 9 1 st.1.length (st.1.map S) :: Sl (.slice ba labels.length bc) 9 1 labels.length (labels.map S) :: fr w0 :: L) := H
  have hn := hl.2.1
  refine CC.of (N := 112) Tryz.func67 rfl rfl rfl ?_
  refine WC.seq ?_
  refine WC.region ?_
  refine l_rd rfl rfl (x_assign ev_c) ?_
  refine l_rd rfl rfl (x_assign ev_c) ?_
  refine WL.nil ?_
  refine WC.seq ?_
  refine WC.region ?_
  refine l_rd rfl rfl (x_move (by conv => lhs; whnf)) ?_
  refine l_st rfl (s_callL cal128 (c128 _ hT hok.1 hla.1 (Hd.arrT [_, _, _, _] [0, 3, 1, 2] (by decide) rfl H)) ?_)
  rintro v19 w H
  obtain ⟨la_, lc_, rfl⟩ := (H.sl 0 rfl).shape
  refine l_st rfl (s_alloc ty176 H fun b6 w H => ?_)
  refine l_no (s_st 0 rfl ty176 rfl (by conv => lhs; whnf) rfl rfl H fun w H => ?_)
  refine WL.nil ?_
  refine WC.seq ?_
  refine WC.region ?_
  refine l_st rfl (s_makeMap H (fun m20 w H => ?_))
  have H := Hd.weak H (Mp.made TS)
  refine l_st rfl (s_build1 Tryz.underlying176 ty3 rfl ev_c rfl H fun b21 w H => ?_)
  refine l_st rfl (s_callL cal129 (c129 _ (hT.old (H.old 5 rfl)) (show RdL w _ nI [0] from H.sl 0 rfl) (fun p h => by have := List.mem_singleton.1 h; omega) (by decide)) ?_)
  rintro _ w ⟨rfl, e1⟩
  have H := H.ext e1
  refine l_no (s_insert TS Tryz.underlying77 1 rfl rfl rfl ev_c H (fun w H => ?_))
  refine l_rd rfl rfl (x_move (by conv => lhs; whnf)) ?_
  refine l_rd rfl rfl (x_assign (by conv => lhs; whnf)) ?_
  refine WL.nil ?_
  refine WC.seq ?_
  refine WC.region ?_
  refine l_st rfl (s_build1 Tryz.underlying176 ty3 rfl ev_c rfl H fun b24 w H => ?_)
  refine l_st rfl (s_build1 Tryz.underlying171 ty176 rfl (by conv => lhs; whnf) rfl H fun b25 w H => ?_)
  refine l_rd rfl rfl (x_assign (by conv => lhs; whnf)) ?_
  refine WL.nil ?_
  refine WC.seq ?_
  refine WC.region ?_
  refine l_rd rfl rfl (x_buildL (pl := [(0, 1), (1, 1)]) (cells := [.slice none 0 0, .slice none 0 0]) Tryz.underlying136 ty136 (by kernel_rfl) rfl) ?_
  refine l_st rfl (s_box (by conv => lhs; whnf) H fun b27 w H => ?_)
  refine l_rd rfl rfl (x_assign (by conv => lhs; whnf)) ?_
  refine WL.nil ?_
  refine WC.seq ?_
  refine WC.seq ?_
  have H := (Hd.arrT [_, _, _, _, _, _, _, _, _, _, _] [2, 0, 1, 3, 4, 5, 6, 7, 8, 9, 10] (by decide) rfl H).fz0
  obtain ⟨g0, -, h24, H⟩ := Hd.freezeSl H.swp
  have H := Hd.nil (Hd.nil H 4 1) 235 1
  refine WC.region ?_
  refine l_rd rfl rfl (x_assign ev_c) ?_
  refine WL.nil ?_
  refine WC.block ?_
  refine WC.loop (fun ρ ds w => ∃ (at_ : Nat) (all : List (List Nat)) (rows : List Row) (ends : List Bool) (vals : List Value) (ms : List Nat) (allv rv ev : Value) (g : KE.Sub), SO (stepN st) labels (finN la em) at_ all rows ends vals ms g ∧ ρ 10 = I at_ ∧ ρ 8 = allv ∧ ρ 7 = .map (some m20) ∧ ρ 9 = .pointer (some ⟨b27, 0, none⟩) ∧ ρ 6 = .pointer (some ⟨b6, 0, none⟩) ∧ ρ 0 = .pointer (some ⟨n, 0, none⟩) ∧ ρ 1 = .slice ba labels.length bc ∧ ds = [] ∧ Hd s w (pt n (.cells (nfaC (.slice va st.1.length vc) st.2 la em).toArray 224 (0, 0)) :: Sl (.slice va st.1.length vc) 9 1 st.1.length (st.1.map S) :: pt b6 (.cells #[.slice la_ (bitsF la).length lc_] 176 (0, 0)) :: Sl (.slice la_ (bitsF la).length lc_) 3 1 (bitsF la).length ((bitsF la).map nI) :: Mp TS m20 ((knownF 0 all).map (gval nI)) :: Sl allv 176 1 all.length (vals.map vI) :: pt b27 (.cells #[rv, ev] 136 (0, 0)) :: Sl rv 235 1 rows.length (ms.map mI) :: Sl ev 4 1 ends.length (ends.map Value.bool) :: Sl (.slice ba labels.length bc) 9 1 labels.length (labels.map S) :: fz g :: fr w0 :: L)) (fun ρ w => 258 - (match ρ 10 with | .int _ k => k.toNat | _ => 0)) (⟨0, [[0]], [], [], [_], [], _, _, _, g0, SO.start _ _ _ h24, rfl, rfl, rfl, rfl, rfl, rfl, rfl, rfl, Hd.arrT [_, _, _, _, _, _, _, _, _, _, _, _, _] [9, 11, 7, 8, 6, 4, 3, 0, 1, 12, 2, 10] (by decide) rfl H⟩) ?_
  repeat clear H
  rintro ρ ds w ⟨at_, all, rows, ends, vals, ms, allv, rv, ev, g, hS, h10, h8, h7, h9, h6, h0, h1, rfl, H⟩
  have h10o := h10
  obtain ⟨aa, ac, rfl⟩ := (H.sl 5 rfl).shape
  obtain ⟨ra, rc, rfl⟩ := (H.sl 7 rfl).shape
  obtain ⟨ea, ec, rfl⟩ := (H.sl 8 rfl).shape
  have hal := hS.le
  have hat := hS.here
  have hrl := hS.rl
  have hel := hS.el
  refine WC.seq ?_
  refine WC.seq ?_
  refine WC.region ?_
  refine l_rd rfl rfl (x_move h10) ?_
  refine l_rd rfl rfl (x_move h8) ?_
  refine l_rd rfl rfl (x_lenSlice Tryz.underlying171 rfl rfl) ?_
  refine l_rdD rfl rfl (x_lss rfl rfl) (fun h31 => ?_) (fun h31 => ?_)
  ·
    obtain ⟨cur, hcur⟩ := lt_get (show at_ < all.length by omega)
    have hΦs : ∀ l ∈ labels, ΦS (stepN st cur l) := fun l _ => stepN_ok hok cur l
    have hI0 := fun m hm => setsI.all (Φ := ΦS) (step := stepN st) (cur := cur) hn hS.Φ hΦs m hm
    refine WL.nil ?_
    refine WC.cond1 rfl ?_
    refine WC.skip ?_
    refine WC.seq ?_
    refine WC.block ?_
    refine WC.scope ?_
    refine WC.seq ?_
    refine WC.region ?_
    refine l_st rfl (s_makeMap H (fun m34 w H => ?_))
    have H := Hd.weak H (Mp.made TS)
    refine l_rd rfl rfl (x_assign (by conv => lhs; whnf)) ?_
    refine WL.nil ?_
    refine WC.seq ?_
    refine WC.label ?_
    refine WC.seq ?_
    refine WC.seq ?_
    refine WC.region ?_
    refine l_rd rfl rfl (x_move h1) ?_
    refine l_rd rfl rfl (x_lenSlice Tryz.underlying103 rfl rfl) ?_
    refine l_rd rfl rfl (x_move ev_c) ?_
    refine WL.nil ?_
    refine WC.block ?_
    refine WC.loop (fun ρ ds w => ∃ (k : Nat) (a : List (List Nat) × Row) (vals : List Value) (allv : Value) (g : KE.Sub), k ≤ labels.length ∧ a = (labels.take k).foldl (setsS (stepN st) cur) (all, []) ∧ SetsG g a.1 vals rows ms ∧ ρ 37 = I k ∧ ρ 36 = I labels.length ∧ ρ 35 = .slice ba labels.length bc ∧ ρ 10 = I at_ ∧ ρ 11 = .map (some m34) ∧ ρ 8 = allv ∧ ρ 7 = .map (some m20) ∧ ρ 9 = .pointer (some ⟨b27, 0, none⟩) ∧ ρ 6 = .pointer (some ⟨b6, 0, none⟩) ∧ ρ 0 = .pointer (some ⟨n, 0, none⟩) ∧ ρ 1 = .slice ba labels.length bc ∧ ds = [] ∧ Hd s w (pt n (.cells (nfaC (.slice va st.1.length vc) st.2 la em).toArray 224 (0, 0)) :: Sl (.slice va st.1.length vc) 9 1 st.1.length (st.1.map S) :: pt b6 (.cells #[.slice la_ (bitsF la).length lc_] 176 (0, 0)) :: Sl (.slice la_ (bitsF la).length lc_) 3 1 (bitsF la).length ((bitsF la).map nI) :: Mp TS m20 ((knownF 0 a.1).map (gval nI)) :: Sl allv 176 1 a.1.length (vals.map vI) :: pt b27 (.cells #[(.slice ra rows.length rc), (.slice ea ends.length ec)] 136 (0, 0)) :: Sl (.slice ra rows.length rc) 235 1 rows.length (ms.map mI) :: Sl (.slice ea ends.length ec) 4 1 ends.length (ends.map Value.bool) :: Sl (.slice ba labels.length bc) 9 1 labels.length (labels.map S) :: Mp TS m34 (a.2.map (gval nI)) :: fz g :: fr w0 :: L)) (fun ρ w => labels.length - (match ρ 37 with | .int _ k => k.toNat | _ => 0)) (⟨0, (all, []), vals, _, g, Nat.zero_le _, rfl, hS.vl, rfl, rfl, rfl, h10, rfl, h8, h7, h9, h6, h0, h1, rfl, Hd.arrT [_, _, _, _, _, _, _, _, _, _, _, _, _] [1, 2, 3, 4, 5, 6, 7, 8, 9, 10, 0, 11, 12] (by decide) rfl H⟩) ?_
    repeat clear H
    rintro ρ ds w ⟨k, a, vals, allv, g, hk, ha, hSG, h37, h36, h35, h10, h11, h8, h7, h9, h6, h0, h1, rfl, H⟩
    obtain ⟨aa, ac, rfl⟩ := (H.sl 5 rfl).shape
    have hI := hI0 k hk
    rw [← ha] at hI
    obtain ⟨⟨tl, htl, htl2⟩, hΦa, hrw⟩ := hI
    have hlt24 := hl.1
    have hal2 : a.1.length ≤ 280 := by rw [htl, List.length_append]; omega
    have hvl := hSG.1
    refine WC.seq ?_
    refine WC.region ?_
    refine l_rdD rfl rfl (x_lss h37 h36) (fun h38 => ?_) (fun h38 => ?_)
    ·
      refine WL.nil ?_
      refine WC.seq ?_
      refine WC.cond1 rfl ?_
      refine WC.skip ?_
      refine WC.seq ?_
      refine WC.block ?_
      refine WC.seq ?_
      obtain ⟨lb, hlb⟩ := lt_get (show k < labels.length by omega)
      obtain ⟨b7, o7, rfl, hc7⟩ := (show RdL w (.slice ba labels.length bc) S labels from H.sl 9 rfl).el hlb
      have hatl : at_ < a.1.length := by rw [htl, List.length_append]; omega
      have hcur2 : a.1[at_]? = some cur := by rw [htl, List.getElem?_append_left (by omega)]; exact hcur
      obtain ⟨v0, hv0⟩ := lt_get (show at_ < vals.length by rw [hvl, htl, List.length_append]; omega)
      have hF0 := hSG.2.1 at_ v0 cur hv0 hcur2
      refine WC.region ?_
      refine l_rd rfl rfl (x_indexAddr Tryz.underlying103 ty9 h35 h37 (by omega) (by omega)) ?_
      refine l_rd rfl rfl (x_load Tryz.underlying9 rfl rfl hc7) ?_
      refine l_rd rfl rfl (x_assign (by conv => lhs; whnf)) ?_
      refine WL.nil ?_
      refine WC.seq ?_
      obtain ⟨b8, o8, rfl, hc8⟩ := (show RdL w (.slice aa vals.length ac) vI vals by unfold RdL; rw [hvl]; exact H.sl 5 rfl).el hv0
      refine WC.region ?_
      refine l_rd rfl rfl (x_move h0) ?_
      refine l_rd rfl rfl (x_move h8) ?_
      refine l_rd rfl rfl (x_move h10) ?_
      refine l_rd rfl rfl (x_indexAddr Tryz.underlying171 ty176 rfl rfl (by omega) (by omega)) ?_
      refine l_rd rfl rfl (x_load Tryz.underlying176 rfl rfl hc8) ?_
      refine l_rd rfl rfl (x_move (by conv => lhs; whnf)) ?_
      refine l_st rfl (s_callL cal130 (c130 (ps := cur) _ hT ⟨hok.1, hok.2.2⟩ hok.2.1 (fun w A h => hF0.in h (List.mem_append_right _ ((List.mem_cons_of_mem _ (List.mem_cons_of_mem _ (List.mem_cons_of_mem _ (List.mem_cons_of_mem _ (List.mem_cons_of_mem _ (List.mem_cons_of_mem _ (List.mem_cons_of_mem _ (List.mem_cons_of_mem _ (List.mem_cons_of_mem _ List.mem_cons_self)))))))))))) (Hd.arrT [_, _, _, _, _, _, _, _, _, _, _, _, _] [0, 1, 12, 2, 3, 4, 5, 6, 7, 8, 9, 10, 11] (by decide) rfl H)) ?_)
      rintro v47 w H
      have hΦ : ΦS (stepN st cur lb) := stepN_ok hok cur lb
      change Hd s w (Sl v47 3 1 (stepN st cur lb).length ((stepN st cur lb).map nI) :: _) at H
      obtain ⟨a47, c47, rfl⟩ := (H.sl 0 rfl).shape
      refine l_rd rfl rfl (x_assign (by conv => lhs; whnf)) ?_
      refine WL.nil ?_
      refine WC.seq ?_
      refine WC.seq ?_
      obtain ⟨g2, hle2, hto, H⟩ := Hd.freezeSl (Hd.arrT [_, _, _, _, _, _, _, _, _, _, _, _, _, _] [0, 13, 1, 2, 3, 4, 5, 6, 7, 8, 9, 10, 11, 12] (by decide) rfl H)
      have hSG := hSG.mono hle2
      refine WC.region ?_
      refine l_rd rfl rfl (x_move (by conv => lhs; whnf)) ?_
      refine l_rd rfl rfl (x_lenSlice Tryz.underlying176 rfl rfl) ?_
      refine l_rdD rfl rfl (x_eql rfl rfl) (fun h50 => ?_) (fun h50 => ?_)
      ·
        have hto0 : stepN st cur lb = [] := List.eq_nil_of_length_eq_zero (by omega)
        refine WL.nil ?_
        refine WC.cond1 rfl ?_
        refine WC.exit ?_
        refine WC.region ?_
        refine l_rd rfl rfl (x_add h37 rfl (by omega) (by omega)) ?_
        refine l_rd rfl rfl (x_move (by conv => lhs; whnf)) ?_
        refine WL.nil ?_
        refine WC.again (⟨k + 1, setsS (stepN st) cur a lb, _, _, g2, by omega, by rw [foldl_take _ _ hlb, ← ha], by rw [setsS_skip hto0]; exact hSG, rfl, h36, h35, h10, h11, h8, h7, h9, h6, h0, h1, rfl, by rw [setsS_skip hto0]; exact Hd.arrT [_, _, _, _, _, _, _, _, _, _, _, _, _] [1, 2, 4, 5, 6, 7, 8, 9, 10, 11, 12, 0, 3] (by decide) rfl H⟩) (by show _ - _ < _ - _; rw [h37]; show labels.length - ((k : Int) + 1).toNat < labels.length - (k : Int).toNat; omega)
      ·
        have hto0 : stepN st cur lb ≠ [] := fun e => h50 (by rw [e]; rfl)
        refine WL.nil ?_
        refine WC.cond0 rfl ?_
        refine WC.skip ?_
        refine WC.seq ?_
        cases hk2 : glook (keyS (stepN st cur lb)) (knownF 0 a.1) with
        | none =>
          refine WC.region ?_
          refine l_rd rfl rfl (x_move h7) ?_
          refine l_rd rfl rfl (x_move (by conv => lhs; whnf)) ?_
          refine l_st rfl (s_callL cal129 (c129 _ (hT.old (H.old 3 rfl)) (hto.at H 0 rfl) (fun p h => by have := hΦ.2 p h; omega) (by have := hΦ.1; omega)) ?_)
          rintro _ w ⟨rfl, e1⟩
          have H := H.ext e1
          refine l_rd rfl rfl (x_lookM TS Tryz.underlying77 ty3 rfl rfl H 6 rfl (show _ = Value.tuple #[I 0, .bool false] by rw [alook_g, hk2]; rfl)) ?_
          refine l_rd rfl rfl (x_move (by conv => lhs; whnf)) ?_
          refine l_rd rfl rfl (x_extract rfl rfl) ?_
          refine l_rd rfl rfl (x_extract rfl rfl) ?_
          refine l_rd rfl rfl (x_assign (by conv => lhs; whnf)) ?_
          refine l_rd rfl rfl (x_assign (by conv => lhs; whnf)) ?_
          refine WL.nil ?_
          refine WC.seq ?_
          refine WC.seq ?_
          refine WC.region ?_
          refine l_rd rfl rfl (x_move (by conv => lhs; whnf)) ?_
          refine l_rd rfl rfl (x_not rfl) ?_
          refine WL.nil ?_
          refine WC.cond1 rfl ?_
          refine WC.seq ?_
          refine WC.region ?_
          refine l_rd rfl rfl (x_move h8) ?_
          refine l_rd rfl rfl (x_lenSlice Tryz.underlying171 rfl rfl) ?_
          refine l_rd rfl rfl (x_assign (by conv => lhs; whnf)) ?_
          refine WL.nil ?_
          refine WC.seq ?_
          refine WC.region ?_
          refine l_rd rfl rfl (x_move h7) ?_
          refine l_rd rfl rfl (x_move (by conv => lhs; whnf)) ?_
          refine l_st rfl (s_callL cal129 (c129 _ (hT.old (H.old 3 rfl)) (hto.at H 0 rfl) (fun p h => by have := hΦ.2 p h; omega) (by have := hΦ.1; omega)) ?_)
          rintro _ w ⟨rfl, e1⟩
          have H := H.ext e1
          refine l_rd rfl rfl (x_move (by conv => lhs; whnf)) ?_
          refine l_no (s_mapUpdate TS Tryz.underlying77 6 rfl rfl rfl (by conv => lhs; whnf) H (fun w H => ?_))
          rw [aset_g nI, gset_new hk2, knownF_snoc0] at H
          refine WL.nil ?_
          refine WC.region ?_
          refine l_rd rfl rfl (x_move h8) ?_
          refine l_rd rfl rfl (x_move (by conv => lhs; whnf)) ?_
          refine l_st rfl (s_build1 Tryz.underlying171 ty176 rfl (by conv => lhs; whnf) rfl H fun b68 w H => ?_)
          refine l_st rfl (s_append Tryz.underlying171 ty176 rfl (by decide) (by decide) rfl 8 rfl rfl rfl (H.sl 0 rfl) (by simp [Value.oneCell']) (by omega) H fun v69 w H => ?_)
          obtain ⟨a69, c69, rfl⟩ := (H.sl 8 rfl).shape
          refine l_rd rfl rfl (x_assign (by conv => lhs; whnf)) ?_
          refine WL.nil ?_
          refine WC.region ?_
          refine l_rd rfl rfl (x_move h11) ?_
          refine l_rd rfl rfl (x_move (by conv => lhs; whnf)) ?_
          refine l_rd rfl rfl (x_move (by conv => lhs; whnf)) ?_
          refine l_no (s_mapUpdate TS Tryz.underlying235 13 rfl rfl rfl (by conv => lhs; whnf) H (fun w H => ?_))
          rw [aset_g nI] at H
          refine WL.nil ?_
          refine WC.region ?_
          refine l_rd rfl rfl (x_add h37 rfl (by omega) (by omega)) ?_
          refine l_rd rfl rfl (x_move (by conv => lhs; whnf)) ?_
          refine WL.nil ?_
          refine WC.again (⟨k + 1, setsS (stepN st) cur a lb, _, _, g2, by omega, by rw [foldl_take _ _ hlb, ← ha], by rw [setsS_new hto0 hk2]; exact hSG.snocA hto, rfl, h36, h35, h10, h11, rfl, h7, h9, h6, h0, h1, rfl, by rw [setsS_new hto0 hk2, List.length_append, List.map_append]; exact Hd.arrT [_, _, _, _, _, _, _, _, _, _, _, _, _, _] [2, 3, 5, 6, 7, 8, 9, 10, 11, 12, 13, 1, 4] (by decide) rfl H⟩) (by show _ - _ < _ - _; rw [h37]; show labels.length - ((k : Int) + 1).toNat < labels.length - (k : Int).toNat; omega)
        | some j =>
          refine WC.region ?_
          refine l_rd rfl rfl (x_move h7) ?_
          refine l_rd rfl rfl (x_move (by conv => lhs; whnf)) ?_
          refine l_st rfl (s_callL cal129 (c129 _ (hT.old (H.old 3 rfl)) (hto.at H 0 rfl) (fun p h => by have := hΦ.2 p h; omega) (by have := hΦ.1; omega)) ?_)
          rintro _ w ⟨rfl, e1⟩
          have H := H.ext e1
          refine l_rd rfl rfl (x_lookM TS Tryz.underlying77 ty3 rfl rfl H 6 rfl (show _ = Value.tuple #[nI j, .bool true] by rw [alook_g, hk2]; rfl)) ?_
          refine l_rd rfl rfl (x_move (by conv => lhs; whnf)) ?_
          refine l_rd rfl rfl (x_extract rfl rfl) ?_
          refine l_rd rfl rfl (x_extract rfl rfl) ?_
          refine l_rd rfl rfl (x_assign (by conv => lhs; whnf)) ?_
          refine l_rd rfl rfl (x_assign (by conv => lhs; whnf)) ?_
          refine WL.nil ?_
          refine WC.seq ?_
          refine WC.seq ?_
          refine WC.region ?_
          refine l_rd rfl rfl (x_move (by conv => lhs; whnf)) ?_
          refine l_rd rfl rfl (x_not rfl) ?_
          refine WL.nil ?_
          refine WC.cond0 rfl ?_
          refine WC.skip ?_
          refine WC.region ?_
          refine l_rd rfl rfl (x_move h11) ?_
          refine l_rd rfl rfl (x_move (by conv => lhs; whnf)) ?_
          refine l_rd rfl rfl (x_move (by conv => lhs; whnf)) ?_
          refine l_no (s_mapUpdate TS Tryz.underlying235 12 rfl rfl rfl (by conv => lhs; whnf) H (fun w H => ?_))
          rw [aset_g nI] at H
          refine WL.nil ?_
          refine WC.region ?_
          refine l_rd rfl rfl (x_add h37 rfl (by omega) (by omega)) ?_
          refine l_rd rfl rfl (x_move (by conv => lhs; whnf)) ?_
          refine WL.nil ?_
          refine WC.again (⟨k + 1, setsS (stepN st) cur a lb, _, _, g2, by omega, by rw [foldl_take _ _ hlb, ← ha], by rw [setsS_old hto0 hk2]; exact hSG, rfl, h36, h35, h10, h11, h8, h7, h9, h6, h0, h1, rfl, by rw [setsS_old hto0 hk2]; exact Hd.arrT [_, _, _, _, _, _, _, _, _, _, _, _, _] [1, 2, 4, 5, 6, 7, 8, 9, 10, 11, 12, 0, 3] (by decide) rfl H⟩) (by show _ - _ < _ - _; rw [h37]; show labels.length - ((k : Int) + 1).toNat < labels.length - (k : Int).toNat; omega)
    ·
      refine WL.nil ?_
      refine WC.seq ?_
      refine WC.cond0 rfl ?_
      refine WC.exit ?_
      refine WC.seq ?_
      refine WC.seq ?_
      refine WC.region ?_
      refine l_rd rfl rfl (x_move h8) ?_
      refine l_rd rfl rfl (x_lenSlice Tryz.underlying171 rfl rfl) ?_
      refine l_rdD rfl rfl (x_gtr rfl rfl) (fun h76 => ?_) (fun h76 => ?_)
      ·
        have ha : a = setsL (stepN st) cur labels all := by rw [ha, List.take_of_length_le (by omega)]; rfl
        refine WL.nil ?_
        refine WC.cond1 rfl ?_
        refine WC.seq ?_
        refine WC.region ?_
        refine l_rd rfl rfl (x_assign ev_c) ?_
        refine l_rd rfl rfl (x_assign ev_c) ?_
        refine WL.nil ?_
        refine WC.ret ?_
        refine atRet ?_
        exact RetM.two rfl (by (conv => lhs; whnf); try rfl) (by (conv => lhs; whnf); try rfl) (.inl ⟨hS.big hcur (by rw [← ha]; omega), rfl, Hd.arrT [_, _, _, _, _, _, _, _, _, _, _, _, _] [9, 12] (by decide) rfl H⟩)
      ·
        have ha : a = setsL (stepN st) cur labels all := by rw [ha, List.take_of_length_le (by omega)]; rfl
        refine WL.nil ?_
        refine WC.cond0 rfl ?_
        refine WC.skip ?_
        refine WC.seq ?_
        rw [ha] at hSG H h8 hrw hal2 h76
        have hbig : ¬ 256 < (setsL (stepN st) cur labels all).1.length := by omega
        obtain ⟨g3, gw, hle3, hlw, hW, H⟩ := Hd.freezeA (Hd.arrT [_, _, _, _, _, _, _, _, _, _, _, _, _] [10, 11, 0, 1, 2, 3, 4, 5, 6, 7, 8, 9, 12] (by decide) rfl H)
        have hSG3 := (hSG.mono hle3).snocR ((MpG.of hW).mono hlw)
        refine WC.region ?_
        refine l_rd rfl rfl (x_makeFuncE (vs := []) rfl (ev_cons h6 rfl)) ?_
        refine l_rd rfl rfl (x_assign (by conv => lhs; whnf)) ?_
        refine WL.nil ?_
        refine WC.seq ?_
        have hvl := hSG3.1
        have hI := hI0 labels.length (Nat.le_refl _)
        rw [List.take_length] at hI
        obtain ⟨⟨tl2, htl2, -⟩, -, -⟩ := hI
        have htl2 : (setsL (stepN st) cur labels all).1 = all ++ tl2 := htl2
        have hcur2 : (setsL (stepN st) cur labels all).1[at_]? = some cur := by rw [htl2, List.getElem?_append_left (by omega)]; exact hcur
        have hatl : at_ < (setsL (stepN st) cur labels all).1.length := by rw [htl2, List.length_append]; omega
        obtain ⟨v0, hv0⟩ := lt_get (show at_ < vals.length by omega)
        have hF0 := hSG3.2.1 at_ v0 cur hv0 hcur2
        obtain ⟨b8, o8, rfl, -⟩ := (show RdL w (.slice aa vals.length ac) vI vals by unfold RdL; rw [hvl]; exact H.sl 6 rfl).el hv0
        refine WC.region ?_
        refine l_rd rfl rfl (x_move h9) ?_
        refine l_rd rfl rfl (x_move h9) ?_
        refine l_rd rfl rfl (x_nilCheck rfl) ?_
        refine l_rd rfl rfl (x_fieldAddr (k := 0) Tryz.underlying136 rfl rfl ty133 (by decide) rfl) ?_
        refine l_rd rfl rfl (x_load Tryz.underlying133 rfl rfl (H.cellL 7 rfl rfl)) ?_
        refine l_rd rfl rfl (x_move h11) ?_
        refine l_st rfl (s_build1 Tryz.underlying133 ty235 rfl (by conv => lhs; whnf) rfl H fun b84 w H => ?_)
        refine l_st rfl (s_append Tryz.underlying133 ty235 rfl (by decide) (by decide) rfl 9 rfl rfl rfl (H.sl 0 rfl) (by simp [Value.oneCell']) (by omega) H fun v85 w H => ?_)
        obtain ⟨a85, c85, rfl⟩ := (H.sl 9 rfl).shape
        refine l_rd rfl rfl (x_nilCheck rfl) ?_
        refine l_rd rfl rfl (x_fieldAddr (k := 0) Tryz.underlying136 rfl rfl ty133 (by decide) rfl) ?_
        refine l_no (s_st 8 rfl ty133 rfl (by conv => lhs; whnf) rfl rfl H fun w H => ?_)
        refine WL.nil ?_
        by_cases hz : at_ = 0
        ·
          rcases (show em = false ∨ em = true by cases em <;> simp) with hem | hem
          ·
            refine WC.draw mixed [9, 17, 19, 20, 23] [[], [], [1], [1, 2], [1, 2, 3], [], [5], [5, 6], [5, 6, 7], [5, 6, 7, 8], [5, 6, 7, 8, 9], [5, 6, 7, 8, 9, 10], [5, 6, 7, 8, 9, 10, 11], [5, 6, 7, 8, 9, 10, 11], [5, 6, 7, 8, 9, 10, 11, 12, 13], [5, 6, 7, 8, 9, 10, 11, 12, 13, 14], [5, 6, 7, 8, 9, 10, 11], [5, 6, 7, 8, 9, 10, 11, 12, 13, 14, 15, 16], [5, 6, 7, 8, 9, 10, 11, 12, 13, 14, 15, 16, 17], [5, 6, 7, 8, 9, 10, 11, 12, 13, 14, 15, 16, 17, 18], [1, 2, 3, 4, 5, 6, 7, 8, 9, 10, 11, 12, 13, 14, 15, 16, 17, 18, 19], [0, 1, 2, 3, 4, 5, 6, 7, 8, 9, 10, 11, 12, 13, 14, 15, 16, 17, 18, 19, 20], [0, 1, 2, 3, 4, 5, 6, 7, 8, 9, 10, 11, 12, 13, 14, 15, 16, 17, 18, 19, 20, 21], [0, 1, 2, 3, 4, 5, 6, 7, 8, 9, 10, 11, 12, 13, 14, 15, 16, 17, 18, 19, 20, 21, 22]] [0, 1, 2, 3, 4, 5, 6, 7, 8, 9, 10, 11, 12, 13, 14, 15, 16, 17, 18, 19, 20, 21, 22, 23] (by kernel_rfl) ?_
            have H := H.drew
            refine k_rd rfl rfl (RS.of rfl rfl (x_move h9)) ?_
            refine k_rd rfl rfl (RS.of rfl rfl (x_move h9)) ?_
            refine k_rd rfl rfl (RS.of rfl rfl (x_nilCheck rfl)) ?_
            refine k_rd rfl rfl (RS.of rfl rfl (x_fieldAddr (k := 1) Tryz.underlying136 rfl rfl ty134 (by decide) rfl)) ?_
            refine k_rd rfl rfl (RS.of rfl rfl (x_load Tryz.underlying134 rfl rfl (H.cellL 8 rfl rfl))) ?_
            refine k_rd rfl rfl (RS.of rfl rfl (x_move h10)) ?_
            refine k_rdD rfl rfl rfl rfl (x_eql rfl rfl) (fun h94 => ?_) (fun h94 => ?_)
            ·
              refine k_rd rfl rfl (RS.of rfl rfl (x_move (by conv => lhs; whnf))) ?_
              refine k_rd rfl rfl (RS.yes rfl (wantY rfl rfl rfl) (x_move h0)) ?_
              refine k_st rfl rfl (wantY rfl rfl rfl) (s_callL cal133 (c133 _ hok.1 (H.obj 2 rfl)) ?_)
              rintro r w ⟨hr1, e1⟩
              have H := H.ext e1
              obtain rfl : r = .bool false := hr1.trans (by rw [hem])
              refine ⟨⟨trivial, ⟨trivial, ⟨trivial, ⟨trivial, ⟨RS.of rfl rfl (x_load Tryz.underlying134 rfl rfl (H.cellL 8 rfl rfl)), ⟨RS.of rfl rfl (x_fieldAddr (k := 1) Tryz.underlying136 rfl rfl ty134 (by decide) rfl), ⟨RS.of rfl rfl (x_nilCheck rfl), ⟨RS.of rfl rfl (x_move h9), ⟨RS.of rfl rfl (x_move h9), trivial⟩⟩⟩⟩⟩⟩⟩⟩⟩, ?_⟩
              refine k_rd rfl rfl (RS.of rfl rfl (x_pick1 rfl (by conv => lhs; whnf))) ?_
              refine k_rd rfl rfl (RS.of rfl rfl (x_move (by conv => lhs; whnf))) ?_
              refine k_rd rfl rfl (RS.yes rfl (wantY rfl rfl rfl) (x_move h8)) ?_
              refine k_rd rfl rfl (RS.yes rfl (wantY rfl rfl rfl) (x_move h10)) ?_
              refine k_rd rfl rfl (RS.yes rfl (wantY rfl rfl rfl) (x_indexAddr Tryz.underlying171 ty176 rfl rfl (by omega) (by omega))) ?_
              refine k_rd rfl rfl (RS.yes rfl (wantY rfl rfl rfl) (x_load Tryz.underlying176 rfl rfl (RdL.at_ (show RdL w (.slice (some ⟨b8, o8, none⟩) vals.length ac) vI vals by unfold RdL; rw [hvl]; exact H.sl 7 rfl) hv0))) ?_
              refine k_rd rfl rfl (RS.yes rfl (wantY rfl rfl rfl) (x_move (by conv => lhs; whnf))) ?_
              refine k_st rfl rfl (wantY rfl rfl rfl) (s_callL cal134 (c134 (fid := 131) (caps := [.pointer (some ⟨b6, 0, none⟩)]) (p := fun p => (bitsF la).contains p) _ (hF0.at H 1 rfl) cal131 (fun x hx w1 e1 => c131 _ ((H.ext e1).obj 4 rfl) ((H.ext e1).sl 5 rfl))) ?_)
              rintro _ w ⟨rfl, e1⟩
              have H := H.ext e1
              refine ⟨⟨trivial, ⟨trivial, ⟨trivial, ⟨trivial, ⟨trivial, ⟨trivial, ⟨trivial, ⟨trivial, ⟨trivial, ⟨trivial, ⟨trivial, ⟨RS.of rfl rfl (x_load Tryz.underlying134 rfl rfl (H.cellL 8 rfl rfl)), ⟨RS.of rfl rfl (x_fieldAddr (k := 1) Tryz.underlying136 rfl rfl ty134 (by decide) rfl), ⟨RS.of rfl rfl (x_nilCheck rfl), ⟨RS.of rfl rfl (x_move h9), ⟨RS.of rfl rfl (x_move h9), trivial⟩⟩⟩⟩⟩⟩⟩⟩⟩⟩⟩⟩⟩⟩⟩⟩, ?_⟩
              refine k_rd rfl rfl (RS.of rfl rfl (x_pick0 rfl (by conv => lhs; whnf))) ?_
              refine k_st rfl rfl rfl (s_build1 Tryz.underlying134 ty4 rfl (by conv => lhs; whnf) rfl H fun b107 w H => ⟨⟨trivial, ⟨trivial, ⟨trivial, ⟨trivial, ⟨trivial, ⟨trivial, ⟨trivial, ⟨trivial, ⟨trivial, ⟨trivial, ⟨trivial, ⟨trivial, ⟨RS.of rfl rfl (x_load Tryz.underlying134 rfl rfl (H.cellL 9 rfl rfl)), ⟨RS.of rfl rfl (x_fieldAddr (k := 1) Tryz.underlying136 rfl rfl ty134 (by decide) rfl), ⟨RS.of rfl rfl (x_nilCheck rfl), ⟨RS.of rfl rfl (x_move h9), ⟨RS.of rfl rfl (x_move h9), trivial⟩⟩⟩⟩⟩⟩⟩⟩⟩⟩⟩⟩⟩⟩⟩⟩⟩, ?_⟩)
              refine k_st rfl rfl rfl (s_append Tryz.underlying134 ty4 rfl (by decide) (by decide) rfl 11 rfl rfl rfl (H.sl 0 rfl) (by simp [Value.oneCell']) (by omega) H fun v108 w H => ⟨⟨trivial, ⟨trivial, ⟨trivial, ⟨trivial, ⟨trivial, ⟨trivial, ⟨trivial, ⟨trivial, ⟨trivial, ⟨trivial, ⟨trivial, ⟨trivial, ⟨trivial, ⟨trivial, ⟨trivial, ⟨trivial, ⟨RS.of rfl rfl (x_move h9), trivial⟩⟩⟩⟩⟩⟩⟩⟩⟩⟩⟩⟩⟩⟩⟩⟩⟩, ?_⟩)
              obtain ⟨a108, c108, rfl⟩ := (H.sl 11 rfl).shape
              refine k_rd rfl rfl (RS.of rfl rfl (x_nilCheck rfl)) ?_
              refine k_rd rfl rfl (RS.of rfl rfl (x_fieldAddr (k := 1) Tryz.underlying136 rfl rfl ty134 (by decide) rfl)) ?_
              refine k_no rfl rfl rfl (s_st 9 rfl ty134 rfl (by conv => lhs; whnf) rfl rfl H (fun w H => ⟨⟨trivial, ⟨trivial, ⟨trivial, ⟨trivial, ⟨trivial, ⟨trivial, ⟨trivial, ⟨trivial, ⟨trivial, ⟨trivial, ⟨trivial, ⟨trivial, ⟨trivial, ⟨trivial, ⟨trivial, ⟨trivial, ⟨trivial, ⟨trivial, ⟨trivial, trivial⟩⟩⟩⟩⟩⟩⟩⟩⟩⟩⟩⟩⟩⟩⟩⟩⟩⟩⟩, ?_⟩))
              have hfin : (cur.any fun p => (bitsF la).contains p) = finN la em at_ cur := by rw [hem]; simp [finN]
              show _
              refine WC.region ?_
              refine l_rd rfl rfl (x_move h10) ?_
              refine l_rd rfl rfl (x_add rfl rfl (by omega) (by omega)) ?_
              refine l_rd rfl rfl (x_assign (by conv => lhs; whnf)) ?_
              refine WL.nil ?_
              refine WC.again (⟨at_ + 1, _, _, _, _, _, _, _, _, g3, hS.next hcur hbig hfin hSG3 hn hΦs, rfl, h8, h7, h9, h6, h0, h1, rfl, by rw [List.length_append, List.map_append, List.length_append, List.map_append]; exact Hd.arrT [_, _, _, _, _, _, _, _, _, _, _, _, _, _] [3, 4, 5, 6, 7, 8, 9, 10, 11, 12, 2, 13] (by decide) rfl H⟩) (by show _ - _ < _ - _; rw [h10o]; show 258 - ((at_ : Int) + 1).toNat < 258 - (at_ : Int).toNat; omega)
            ·
              exact absurd (by omega) h94
          ·
            refine WC.draw mixed [9, 17, 19, 20, 23] [[], [], [1], [1, 2], [1, 2, 3], [], [5], [5, 6], [5, 6, 7], [5, 6, 7, 8], [5, 6, 7, 8, 9], [5, 6, 7, 8, 9, 10], [5, 6, 7, 8, 9, 10, 11], [5, 6, 7, 8, 9, 10, 11], [5, 6, 7, 8, 9, 10, 11, 12, 13], [5, 6, 7, 8, 9, 10, 11, 12, 13, 14], [5, 6, 7, 8, 9, 10, 11], [5, 6, 7, 8, 9, 10, 11, 12, 13, 14, 15, 16], [5, 6, 7, 8, 9, 10, 11, 12, 13, 14, 15, 16, 17], [5, 6, 7, 8, 9, 10, 11, 12, 13, 14, 15, 16, 17, 18], [1, 2, 3, 4, 5, 6, 7, 8, 9, 10, 11, 12, 13, 14, 15, 16, 17, 18, 19], [0, 1, 2, 3, 4, 5, 6, 7, 8, 9, 10, 11, 12, 13, 14, 15, 16, 17, 18, 19, 20], [0, 1, 2, 3, 4, 5, 6, 7, 8, 9, 10, 11, 12, 13, 14, 15, 16, 17, 18, 19, 20, 21], [0, 1, 2, 3, 4, 5, 6, 7, 8, 9, 10, 11, 12, 13, 14, 15, 16, 17, 18, 19, 20, 21, 22]] [0, 1, 2, 3, 4, 5, 6, 7, 8, 9, 10, 11, 12, 13, 14, 15, 16, 17, 18, 19, 20, 21, 22, 23] (by kernel_rfl) ?_
            have H := H.drew
            refine k_rd rfl rfl (RS.of rfl rfl (x_move h9)) ?_
            refine k_rd rfl rfl (RS.of rfl rfl (x_move h9)) ?_
            refine k_rd rfl rfl (RS.of rfl rfl (x_nilCheck rfl)) ?_
            refine k_rd rfl rfl (RS.of rfl rfl (x_fieldAddr (k := 1) Tryz.underlying136 rfl rfl ty134 (by decide) rfl)) ?_
            refine k_rd rfl rfl (RS.of rfl rfl (x_load Tryz.underlying134 rfl rfl (H.cellL 8 rfl rfl))) ?_
            refine k_rd rfl rfl (RS.of rfl rfl (x_move h10)) ?_
            refine k_rdD rfl rfl rfl rfl (x_eql rfl rfl) (fun h94 => ?_) (fun h94 => ?_)
            ·
              refine k_rd rfl rfl (RS.of rfl rfl (x_move (by conv => lhs; whnf))) ?_
              refine k_rd rfl rfl (RS.yes rfl (wantY rfl rfl rfl) (x_move h0)) ?_
              refine k_st rfl rfl (wantY rfl rfl rfl) (s_callL cal133 (c133 _ hok.1 (H.obj 2 rfl)) ?_)
              rintro r w ⟨hr1, e1⟩
              have H := H.ext e1
              obtain rfl : r = .bool true := hr1.trans (by rw [hem])
              refine ⟨⟨trivial, ⟨trivial, ⟨trivial, ⟨trivial, ⟨RS.of rfl rfl (x_load Tryz.underlying134 rfl rfl (H.cellL 8 rfl rfl)), ⟨RS.of rfl rfl (x_fieldAddr (k := 1) Tryz.underlying136 rfl rfl ty134 (by decide) rfl), ⟨RS.of rfl rfl (x_nilCheck rfl), ⟨RS.of rfl rfl (x_move h9), ⟨RS.of rfl rfl (x_move h9), trivial⟩⟩⟩⟩⟩⟩⟩⟩⟩, ?_⟩
              refine k_rd rfl rfl (RS.of rfl rfl (x_pick1 rfl (by conv => lhs; whnf))) ?_
              refine k_rd rfl rfl (RS.of rfl rfl (x_move (by conv => lhs; whnf))) ?_
              refine k_rd rfl rfl (RS.no rfl (wantN rfl rfl rfl)) ?_
              refine k_rd rfl rfl (RS.no rfl (wantN rfl rfl rfl)) ?_
              refine k_rd rfl rfl (RS.no rfl (wantN rfl rfl rfl)) ?_
              refine k_rd rfl rfl (RS.no rfl (wantN rfl rfl rfl)) ?_
              refine k_rd rfl rfl (RS.no rfl (wantN rfl rfl rfl)) ?_
              refine k_un rfl rfl (wantN rfl rfl rfl) (⟨trivial, ⟨trivial, ⟨trivial, ⟨trivial, ⟨trivial, ⟨trivial, ⟨trivial, ⟨trivial, ⟨trivial, ⟨trivial, ⟨trivial, ⟨RS.of rfl rfl (x_load Tryz.underlying134 rfl rfl (H.cellL 8 rfl rfl)), ⟨RS.of rfl rfl (x_fieldAddr (k := 1) Tryz.underlying136 rfl rfl ty134 (by decide) rfl), ⟨RS.of rfl rfl (x_nilCheck rfl), ⟨RS.of rfl rfl (x_move h9), ⟨RS.of rfl rfl (x_move h9), trivial⟩⟩⟩⟩⟩⟩⟩⟩⟩⟩⟩⟩⟩⟩⟩⟩) ?_
              refine k_rd rfl rfl (RS.of rfl rfl (x_pick1 rfl ev_c)) ?_
              refine k_st rfl rfl rfl (s_build1 Tryz.underlying134 ty4 rfl (by conv => lhs; whnf) rfl H fun b107 w H => ⟨⟨trivial, ⟨trivial, ⟨trivial, ⟨trivial, ⟨trivial, ⟨trivial, ⟨trivial, ⟨trivial, ⟨trivial, ⟨trivial, ⟨trivial, ⟨trivial, ⟨RS.of rfl rfl (x_load Tryz.underlying134 rfl rfl (H.cellL 9 rfl rfl)), ⟨RS.of rfl rfl (x_fieldAddr (k := 1) Tryz.underlying136 rfl rfl ty134 (by decide) rfl), ⟨RS.of rfl rfl (x_nilCheck rfl), ⟨RS.of rfl rfl (x_move h9), ⟨RS.of rfl rfl (x_move h9), trivial⟩⟩⟩⟩⟩⟩⟩⟩⟩⟩⟩⟩⟩⟩⟩⟩⟩, ?_⟩)
              refine k_st rfl rfl rfl (s_append Tryz.underlying134 ty4 rfl (by decide) (by decide) rfl 11 rfl rfl rfl (H.sl 0 rfl) (by simp [Value.oneCell']) (by omega) H fun v108 w H => ⟨⟨trivial, ⟨trivial, ⟨trivial, ⟨trivial, ⟨trivial, ⟨trivial, ⟨trivial, ⟨trivial, ⟨trivial, ⟨trivial, ⟨trivial, ⟨trivial, ⟨trivial, ⟨trivial, ⟨trivial, ⟨trivial, ⟨RS.of rfl rfl (x_move h9), trivial⟩⟩⟩⟩⟩⟩⟩⟩⟩⟩⟩⟩⟩⟩⟩⟩⟩, ?_⟩)
              obtain ⟨a108, c108, rfl⟩ := (H.sl 11 rfl).shape
              refine k_rd rfl rfl (RS.of rfl rfl (x_nilCheck rfl)) ?_
              refine k_rd rfl rfl (RS.of rfl rfl (x_fieldAddr (k := 1) Tryz.underlying136 rfl rfl ty134 (by decide) rfl)) ?_
              refine k_no rfl rfl rfl (s_st 9 rfl ty134 rfl (by conv => lhs; whnf) rfl rfl H (fun w H => ⟨⟨trivial, ⟨trivial, ⟨trivial, ⟨trivial, ⟨trivial, ⟨trivial, ⟨trivial, ⟨trivial, ⟨trivial, ⟨trivial, ⟨trivial, ⟨trivial, ⟨trivial, ⟨trivial, ⟨trivial, ⟨trivial, ⟨trivial, ⟨trivial, ⟨trivial, trivial⟩⟩⟩⟩⟩⟩⟩⟩⟩⟩⟩⟩⟩⟩⟩⟩⟩⟩⟩, ?_⟩))
              have hfin : true = finN la em at_ cur := by rw [hem]; simp [finN, hz]
              show _
              refine WC.region ?_
              refine l_rd rfl rfl (x_move h10) ?_
              refine l_rd rfl rfl (x_add rfl rfl (by omega) (by omega)) ?_
              refine l_rd rfl rfl (x_assign (by conv => lhs; whnf)) ?_
              refine WL.nil ?_
              refine WC.again (⟨at_ + 1, _, _, _, _, _, _, _, _, g3, hS.next hcur hbig hfin hSG3 hn hΦs, rfl, h8, h7, h9, h6, h0, h1, rfl, by rw [List.length_append, List.map_append, List.length_append, List.map_append]; exact Hd.arrT [_, _, _, _, _, _, _, _, _, _, _, _, _, _] [3, 4, 5, 6, 7, 8, 9, 10, 11, 12, 2, 13] (by decide) rfl H⟩) (by show _ - _ < _ - _; rw [h10o]; show 258 - ((at_ : Int) + 1).toNat < 258 - (at_ : Int).toNat; omega)
            ·
              exact absurd (by omega) h94
        ·
          refine WC.draw mixed [9, 17, 19, 20, 23] [[], [], [1], [1, 2], [1, 2, 3], [], [5], [5, 6], [5, 6, 7], [5, 6, 7, 8], [5, 6, 7, 8, 9], [5, 6, 7, 8, 9, 10], [5, 6, 7, 8, 9, 10, 11], [5, 6, 7, 8, 9, 10, 11], [5, 6, 7, 8, 9, 10, 11, 12, 13], [5, 6, 7, 8, 9, 10, 11, 12, 13, 14], [5, 6, 7, 8, 9, 10, 11], [5, 6, 7, 8, 9, 10, 11, 12, 13, 14, 15, 16], [5, 6, 7, 8, 9, 10, 11, 12, 13, 14, 15, 16, 17], [5, 6, 7, 8, 9, 10, 11, 12, 13, 14, 15, 16, 17, 18], [1, 2, 3, 4, 5, 6, 7, 8, 9, 10, 11, 12, 13, 14, 15, 16, 17, 18, 19], [0, 1, 2, 3, 4, 5, 6, 7, 8, 9, 10, 11, 12, 13, 14, 15, 16, 17, 18, 19, 20], [0, 1, 2, 3, 4, 5, 6, 7, 8, 9, 10, 11, 12, 13, 14, 15, 16, 17, 18, 19, 20, 21], [0, 1, 2, 3, 4, 5, 6, 7, 8, 9, 10, 11, 12, 13, 14, 15, 16, 17, 18, 19, 20, 21, 22]] [0, 1, 2, 3, 4, 5, 6, 7, 8, 9, 10, 11, 12, 13, 14, 15, 16, 17, 18, 19, 20, 21, 22, 23] (by kernel_rfl) ?_
          have H := H.drew
          refine k_rd rfl rfl (RS.of rfl rfl (x_move h9)) ?_
          refine k_rd rfl rfl (RS.of rfl rfl (x_move h9)) ?_
          refine k_rd rfl rfl (RS.of rfl rfl (x_nilCheck rfl)) ?_
          refine k_rd rfl rfl (RS.of rfl rfl (x_fieldAddr (k := 1) Tryz.underlying136 rfl rfl ty134 (by decide) rfl)) ?_
          refine k_rd rfl rfl (RS.of rfl rfl (x_load Tryz.underlying134 rfl rfl (H.cellL 8 rfl rfl))) ?_
          refine k_rd rfl rfl (RS.of rfl rfl (x_move h10)) ?_
          refine k_rdD rfl rfl rfl rfl (x_eql rfl rfl) (fun h94 => ?_) (fun h94 => ?_)
          ·
            exact absurd (by omega) hz
          ·
            refine k_rd rfl rfl (RS.of rfl rfl (x_move (by conv => lhs; whnf))) ?_
            refine k_rd rfl rfl (RS.no rfl (wantN rfl rfl rfl)) ?_
            refine k_un rfl rfl (wantN rfl rfl rfl) (⟨trivial, ⟨trivial, ⟨trivial, ⟨trivial, ⟨RS.of rfl rfl (x_load Tryz.underlying134 rfl rfl (H.cellL 8 rfl rfl)), ⟨RS.of rfl rfl (x_fieldAddr (k := 1) Tryz.underlying136 rfl rfl ty134 (by decide) rfl), ⟨RS.of rfl rfl (x_nilCheck rfl), ⟨RS.of rfl rfl (x_move h9), ⟨RS.of rfl rfl (x_move h9), trivial⟩⟩⟩⟩⟩⟩⟩⟩⟩) ?_
            refine k_rd rfl rfl (RS.of rfl rfl (x_pick0 rfl ev_c)) ?_
            refine k_rd rfl rfl (RS.of rfl rfl (x_move (by conv => lhs; whnf))) ?_
            refine k_rd rfl rfl (RS.yes rfl (wantY rfl rfl rfl) (x_move h8)) ?_
            refine k_rd rfl rfl (RS.yes rfl (wantY rfl rfl rfl) (x_move h10)) ?_
            refine k_rd rfl rfl (RS.yes rfl (wantY rfl rfl rfl) (x_indexAddr Tryz.underlying171 ty176 rfl rfl (by omega) (by omega))) ?_
            refine k_rd rfl rfl (RS.yes rfl (wantY rfl rfl rfl) (x_load Tryz.underlying176 rfl rfl (RdL.at_ (show RdL w (.slice (some ⟨b8, o8, none⟩) vals.length ac) vI vals by unfold RdL; rw [hvl]; exact H.sl 7 rfl) hv0))) ?_
            refine k_rd rfl rfl (RS.yes rfl (wantY rfl rfl rfl) (x_move (by conv => lhs; whnf))) ?_
            refine k_st rfl rfl (wantY rfl rfl rfl) (s_callL cal134 (c134 (fid := 131) (caps := [.pointer (some ⟨b6, 0, none⟩)]) (p := fun p => (bitsF la).contains p) _ (hF0.at H 1 rfl) cal131 (fun x hx w1 e1 => c131 _ ((H.ext e1).obj 4 rfl) ((H.ext e1).sl 5 rfl))) ?_)
            rintro _ w ⟨rfl, e1⟩
            have H := H.ext e1
            refine ⟨⟨trivial, ⟨trivial, ⟨trivial, ⟨trivial, ⟨trivial, ⟨trivial, ⟨trivial, ⟨trivial, ⟨trivial, ⟨trivial, ⟨trivial, ⟨RS.of rfl rfl (x_load Tryz.underlying134 rfl rfl (H.cellL 8 rfl rfl)), ⟨RS.of rfl rfl (x_fieldAddr (k := 1) Tryz.underlying136 rfl rfl ty134 (by decide) rfl), ⟨RS.of rfl rfl (x_nilCheck rfl), ⟨RS.of rfl rfl (x_move h9), ⟨RS.of rfl rfl (x_move h9), trivial⟩⟩⟩⟩⟩⟩⟩⟩⟩⟩⟩⟩⟩⟩⟩⟩, ?_⟩
            refine k_rd rfl rfl (RS.of rfl rfl (x_pick0 rfl (by conv => lhs; whnf))) ?_
            refine k_st rfl rfl rfl (s_build1 Tryz.underlying134 ty4 rfl (by conv => lhs; whnf) rfl H fun b107 w H => ⟨⟨trivial, ⟨trivial, ⟨trivial, ⟨trivial, ⟨trivial, ⟨trivial, ⟨trivial, ⟨trivial, ⟨trivial, ⟨trivial, ⟨trivial, ⟨trivial, ⟨RS.of rfl rfl (x_load Tryz.underlying134 rfl rfl (H.cellL 9 rfl rfl)), ⟨RS.of rfl rfl (x_fieldAddr (k := 1) Tryz.underlying136 rfl rfl ty134 (by decide) rfl), ⟨RS.of rfl rfl (x_nilCheck rfl), ⟨RS.of rfl rfl (x_move h9), ⟨RS.of rfl rfl (x_move h9), trivial⟩⟩⟩⟩⟩⟩⟩⟩⟩⟩⟩⟩⟩⟩⟩⟩⟩, ?_⟩)
            refine k_st rfl rfl rfl (s_append Tryz.underlying134 ty4 rfl (by decide) (by decide) rfl 11 rfl rfl rfl (H.sl 0 rfl) (by simp [Value.oneCell']) (by omega) H fun v108 w H => ⟨⟨trivial, ⟨trivial, ⟨trivial, ⟨trivial, ⟨trivial, ⟨trivial, ⟨trivial, ⟨trivial, ⟨trivial, ⟨trivial, ⟨trivial, ⟨trivial, ⟨trivial, ⟨trivial, ⟨trivial, ⟨trivial, ⟨RS.of rfl rfl (x_move h9), trivial⟩⟩⟩⟩⟩⟩⟩⟩⟩⟩⟩⟩⟩⟩⟩⟩⟩, ?_⟩)
            obtain ⟨a108, c108, rfl⟩ := (H.sl 11 rfl).shape
            refine k_rd rfl rfl (RS.of rfl rfl (x_nilCheck rfl)) ?_
            refine k_rd rfl rfl (RS.of rfl rfl (x_fieldAddr (k := 1) Tryz.underlying136 rfl rfl ty134 (by decide) rfl)) ?_
            refine k_no rfl rfl rfl (s_st 9 rfl ty134 rfl (by conv => lhs; whnf) rfl rfl H (fun w H => ⟨⟨trivial, ⟨trivial, ⟨trivial, ⟨trivial, ⟨trivial, ⟨trivial, ⟨trivial, ⟨trivial, ⟨trivial, ⟨trivial, ⟨trivial, ⟨trivial, ⟨trivial, ⟨trivial, ⟨trivial, ⟨trivial, ⟨trivial, ⟨trivial, ⟨trivial, trivial⟩⟩⟩⟩⟩⟩⟩⟩⟩⟩⟩⟩⟩⟩⟩⟩⟩⟩⟩, ?_⟩))
            have hfin : (cur.any fun p => (bitsF la).contains p) = finN la em at_ cur := by simp [finN, hz]
            show _
            refine WC.region ?_
            refine l_rd rfl rfl (x_move h10) ?_
            refine l_rd rfl rfl (x_add rfl rfl (by omega) (by omega)) ?_
            refine l_rd rfl rfl (x_assign (by conv => lhs; whnf)) ?_
            refine WL.nil ?_
            refine WC.again (⟨at_ + 1, _, _, _, _, _, _, _, _, g3, hS.next hcur hbig hfin hSG3 hn hΦs, rfl, h8, h7, h9, h6, h0, h1, rfl, by rw [List.length_append, List.map_append, List.length_append, List.map_append]; exact Hd.arrT [_, _, _, _, _, _, _, _, _, _, _, _, _, _] [3, 4, 5, 6, 7, 8, 9, 10, 11, 12, 2, 13] (by decide) rfl H⟩) (by show _ - _ < _ - _; rw [h10o]; show 258 - ((at_ : Int) + 1).toNat < 258 - (at_ : Int).toNat; omega)
  ·
    have hdone := hS.done (by omega)
    refine WL.nil ?_
    refine WC.cond0 rfl ?_
    refine WC.exit ?_
    refine WC.seq ?_
    refine WC.region ?_
    refine l_rd rfl rfl (x_move h9) ?_
    refine l_rd rfl rfl (x_assign (by conv => lhs; whnf)) ?_
    refine l_rd rfl rfl (x_assign ev_c) ?_
    refine WL.nil ?_
    refine WC.ret ?_
    refine atRet ?_
    exact RetM.two rfl (by (conv => lhs; whnf); try rfl) (by (conv => lhs; whnf); try rfl) (.inr (by
          have H := Hd.arrT [_, _, _, _, _, _, _, _, _, _, _, _] [6, 10, 7, 8, 9, 11] (by decide) rfl H
          obtain ⟨g1, gp, l1, lp, hp, H⟩ := Hd.freezeA H
          have H := Hd.swp H
          obtain ⟨g2, l2, hR, H⟩ := Hd.freezeSl H
          have H := Hd.swp H
          obtain ⟨g3, l3, hE, H⟩ := Hd.freezeSl H
          exact ⟨_, _, _, _, g3, hdone, rfl, l3 _ _ (l2 _ _ (lp _ _ hp)), hS.graph (l1.trans (l2.trans l3)) (hR.mono l3) hE, H⟩))
theorem cal136 : Cal Tryz.prog 136 := ⟨_, Tryz.func136, rfl, by decide⟩
theorem cal190 : Cal Tryz.prog 190 := ⟨_, Tryz.func190, rfl, by decide⟩
/-- the first numbers of the parts, some of them set -/
def partA (ends : List Bool) (n k : Nat) : List Nat := part0 (ends.take k) ++ List.replicate (n - k) 0
theorem partA_0 (ends : List Bool) (n : Nat) : (partA ends n 0).map nI = List.replicate n (Value.int .i64 0) := by simp [partA, part0]
theorem partA_n {ends : List Bool} {n k : Nat} (hk : k < n) (h : ends[k]? = some false) : partA ends n k = partA ends n (k + 1) := by
  unfold partA part0
  rw [List.take_add_one, h, List.map_append, show n - k = (n - (k + 1)) + 1 by omega, List.replicate_succ, List.append_assoc]; rfl
theorem partA_y {ends : List Bool} {n k : Nat} (hk : k < n) (h : ends[k]? = some true) : (partA ends n k).set k 1 = partA ends n (k + 1) := by
  have hlt := (List.getElem?_eq_some_iff.1 h).1
  unfold partA part0
  rw [List.take_add_one, h, List.map_append, show n - k = (n - (k + 1)) + 1 by omega, List.replicate_succ, List.append_assoc, List.set_append_right _ _ (by simp; omega)]
  simp only [List.length_map, List.length_take, Nat.min_eq_left (Nat.le_of_lt hlt), Nat.sub_self, List.set_cons_zero]; rfl
theorem partA_all {ends : List Bool} {n : Nat} (h : ends.length = n) : partA ends n n = part0 ends := by
  unfold partA
  rw [List.take_of_length_le (by omega), Nat.sub_self]; simp
theorem part0_len (ends : List Bool) : (part0 ends).length = ends.length := by simp [part0]
theorem part0_lt (ends : List Bool) : ∀ q ∈ part0 ends, q < 1000000 := fun q hq => by
  obtain ⟨b, _, rfl⟩ := List.mem_map.1 hq
  cases b <;> decide
def nextA (l : List Nat) (n : Nat) : List Nat := l ++ List.replicate (n - l.length) 0
theorem nextA_0 (n : Nat) : (nextA [] n).map nI = List.replicate n (Value.int .i64 0) := by simp [nextA]
theorem nextA_all {l : List Nat} {n : Nat} (h : l.length = n) : nextA l n = l := by simp [nextA, h]
theorem nextA_set {l : List Nat} {n k : Nat} (j : Nat) (h : l.length = k) (hk : k < n) : (nextA l n).set k j = nextA (l ++ [j]) n := by
  unfold nextA
  rw [List.set_append_right _ _ (by omega), h, Nat.sub_self, List.length_append, h, show n - k = (n - (k + [j].length)) + 1 by simp; omega, List.replicate_succ, List.set_cons_zero, List.append_assoc]; rfl
theorem refS_old {part : List Nat} {a : List (ByteArray × Nat) × List Nat} {row : Row} {p j : Nat} (h : glook (rowKey part p row) a.1 = some j) : refS part a (row, p) = (a.1, a.2 ++ [j]) := by unfold refS; rw [h]
theorem refS_new {part : List Nat} {a : List (ByteArray × Nat) × List Nat} {row : Row} {p : Nat} (h : glook (rowKey part p row) a.1 = none) : refS part a (row, p) = (gset (rowKey part p row) a.1.length a.1, a.2 ++ [a.1.length]) := by unfold refS; rw [h]
theorem c135 {s : Sy} [NoEx s] {L : List Hp} {g : KE.Sub} {w0 : World} {a : Nat} {rv ev : Value} {f0 : Nat × Nat} {G : Gr} {labels : List ByteArray} (w : World) (hT : TB w0) (hl : okL labels) (hG : GrG g rv ev G) (ha : g a = some (.cells #[rv, ev] 136 f0)) (hok : okG labels G) (H : Hd s w (fz g :: fr w0 :: L)) : CC Tryz.prog 135 [.pointer (some ⟨a, 0, none⟩)].toArray w (fun r w' => Hd s w' (Sl r 3 1 (partsF G).length ((partsF G).map nI) :: fz g :: fr w0 :: L)) := by
  have hGG := hG
  obtain ⟨ms, hF, hlen, hmp⟩ := hGG
  have h256 := hok.2.1
  have h1le := hok.1
  have hel := hok.2.2.1
  obtain ⟨m0, hm0⟩ := lt_get (show 0 < ms.length by omega)
  obtain ⟨ra, rc, hrv⟩ := (hF.at H 0 rfl).1.shape
  rw [hlen] at hrv
  subst hrv
  obtain ⟨rb, ro, rfl, -⟩ := (hF.at H 0 rfl).1.el hm0
  obtain ⟨ea, ec, rfl⟩ := (hF.at H 0 rfl).2.shape
  refine CC.of (N := 95) Tryz.func135 rfl rfl rfl ?_
  refine WC.seq ?_
  refine WC.region ?_
  refine l_rd rfl rfl (x_assign ev_c) ?_
  refine WL.nil ?_
  refine WC.scope ?_
  refine WC.seq ?_
  refine WC.region ?_
  refine l_rd rfl rfl (x_move (by conv => lhs; whnf)) ?_
  refine l_rd rfl rfl (x_nilCheck rfl) ?_
  refine l_rd rfl rfl (x_fieldAddr (k := 0) Tryz.underlying136 rfl rfl ty133 (by decide) rfl) ?_
  refine l_rd rfl rfl (x_load Tryz.underlying133 rfl rfl (cell_ofL ((H.fz 0 rfl) _ _ ha) rfl)) ?_
  refine l_rd rfl rfl (x_lenSlice Tryz.underlying133 rfl rfl) ?_
  refine l_st rfl (s_makeRow Tryz.underlying176 ty3 rfl rfl rfl (by omega) (by omega) H (fun b20 w H => ?_))
  refine l_st rfl (s_alloc ty176 H fun b3 w H => ?_)
  refine l_no (s_st 0 rfl ty176 rfl (by conv => lhs; whnf) rfl rfl H fun w H => ?_)
  refine WL.nil ?_
  refine WC.seq ?_
  refine WC.seq ?_
  refine WC.region ?_
  refine l_rd rfl rfl (x_move (by conv => lhs; whnf)) ?_
  refine l_rd rfl rfl (x_nilCheck rfl) ?_
  refine l_rd rfl rfl (x_fieldAddr (k := 1) Tryz.underlying136 rfl rfl ty134 (by decide) rfl) ?_
  refine l_rd rfl rfl (x_load Tryz.underlying134 rfl rfl (cell_ofL ((H.fz 2 rfl) _ _ ha) rfl)) ?_
  refine l_rd rfl rfl (x_lenSlice Tryz.underlying134 rfl rfl) ?_
  refine l_rd rfl rfl (x_move ev_c) ?_
  refine WL.nil ?_
  refine WC.block ?_
  refine WC.loop (fun ρ ds w => ∃ k : Nat, k ≤ G.ends.length ∧ ρ 26 = I k ∧ ρ 25 = I G.ends.length ∧ ρ 24 = .slice ea G.ends.length ec ∧ ρ 3 = .pointer (some ⟨b3, 0, none⟩) ∧ ρ 0 = .pointer (some ⟨a, 0, none⟩) ∧ ds = [] ∧ Hd s w (pt b3 (.cells #[.slice (some ⟨b20, 0, none⟩) G.rows.length G.rows.length] 176 (0, 0)) :: Sl (.slice (some ⟨b20, 0, none⟩) G.rows.length G.rows.length) 3 1 G.rows.length ((partA G.ends G.rows.length k).map nI) :: fz g :: fr w0 :: L)) (fun ρ w => G.ends.length - (match ρ 26 with | .int _ k => k.toNat | _ => 0)) (⟨0, Nat.zero_le _, rfl, rfl, rfl, rfl, rfl, rfl, by rw [partA_0]; exact Hd.arrT [_, _, _, _] [0, 1, 2, 3] (by decide) rfl H⟩) ?_
  repeat clear H
  rintro ρ ds w ⟨k, hk, h26, h25, h24, h3, h0, rfl, H⟩
  refine WC.seq ?_
  refine WC.region ?_
  refine l_rdD rfl rfl (x_lss h26 h25) (fun h27 => ?_) (fun h27 => ?_)
  ·
    refine WL.nil ?_
    refine WC.seq ?_
    refine WC.cond1 rfl ?_
    refine WC.skip ?_
    refine WC.seq ?_
    refine WC.block ?_
    refine WC.seq ?_
    obtain ⟨e, he⟩ := lt_get (show k < G.ends.length by omega)
    obtain ⟨b5, o5, rfl, -⟩ := (hF.at H 2 rfl).2.el he
    refine WC.region ?_
    refine l_rd rfl rfl (x_move h26) ?_
    refine l_rd rfl rfl (x_indexAddr Tryz.underlying134 ty4 h24 h26 (by omega) (by omega)) ?_
    refine l_rd rfl rfl (x_load Tryz.underlying4 rfl rfl ((hF.at H 2 rfl).2.at_ he)) ?_
    refine l_rd rfl rfl (x_assign (by conv => lhs; whnf)) ?_
    refine l_rd rfl rfl (x_assign (by conv => lhs; whnf)) ?_
    refine WL.nil ?_
    refine WC.seq ?_
    refine WC.region ?_
    refine l_rd rfl rfl (x_move (by conv => lhs; whnf)) ?_
    cases e
    ·
      refine WL.nil ?_
      refine WC.cond0 rfl ?_
      refine WC.skip ?_
      refine WC.region ?_
      refine l_rd rfl rfl (x_add h26 rfl (by omega) (by omega)) ?_
      refine l_rd rfl rfl (x_move (by conv => lhs; whnf)) ?_
      refine WL.nil ?_
      refine WC.again (⟨k + 1, by omega, rfl, h25, h24, h3, h0, rfl, by rw [← partA_n (by omega) he]; exact H⟩) (by show _ - _ < _ - _; rw [h26]; show G.ends.length - ((k : Int) + 1).toNat < G.ends.length - (k : Int).toNat; omega)
    ·
      refine WL.nil ?_
      refine WC.cond1 rfl ?_
      refine WC.region ?_
      refine l_rd rfl rfl (x_load Tryz.underlying176 rfl h3 (H.cellL 0 rfl rfl)) ?_
      refine l_rd rfl rfl (x_move (by conv => lhs; whnf)) ?_
      refine l_rd rfl rfl (x_indexAddr Tryz.underlying176 ty3 rfl rfl (by omega) (by omega)) ?_
      refine l_no (s_storeElF (f := nI) (u := 1) (k := k) 1 rfl rfl (by omega) ty3 rfl rfl rfl H (fun w H => ?_))
      refine WL.nil ?_
      refine WC.region ?_
      refine l_rd rfl rfl (x_add h26 rfl (by omega) (by omega)) ?_
      refine l_rd rfl rfl (x_move (by conv => lhs; whnf)) ?_
      refine WL.nil ?_
      refine WC.again (⟨k + 1, by omega, rfl, h25, h24, h3, h0, rfl, by rw [← partA_y (by omega) he]; exact H⟩) (by show _ - _ < _ - _; rw [h26]; show G.ends.length - ((k : Int) + 1).toNat < G.ends.length - (k : Int).toNat; omega)
  ·
    refine WL.nil ?_
    refine WC.seq ?_
    refine WC.cond0 rfl ?_
    refine WC.exit ?_
    refine WC.seq ?_
    refine WC.region ?_
    refine l_rd rfl rfl (x_assign ev_c) ?_
    refine WL.nil ?_
    refine WC.seq ?_
    refine WC.label ?_
    refine WC.seq ?_
    refine WC.block ?_
    rw [show k = G.rows.length by omega, partA_all hok.2.2.1] at H
    have H := Hd.arrT [_, _, _] [1, 2, 0] (by decide) rfl (MK.nil H)
    refine WC.loop (fun ρ ds w => ∃ (f many : Nat) (part : List Nat) (pv : Value), partsF G = partsGo G.rows f part many ∧ okM G.rows.length part many ∧ G.rows.length + 1 - many ≤ f ∧ (∀ q ∈ part, q < 1000000) ∧ many ≤ G.rows.length ∧ ρ 6 = I many ∧ ρ 3 = .pointer (some ⟨b3, 0, none⟩) ∧ ρ 0 = .pointer (some ⟨a, 0, none⟩) ∧ Hd s w (pt b3 (.cells #[pv] 176 (0, 0)) :: Sl pv 3 1 part.length (part.map nI) :: MK ds :: fz g :: fr w0 :: L)) (fun ρ w => G.rows.length + 1 - (match ρ 6 with | .int _ k => k.toNat | _ => 0)) (⟨_, 0, part0 G.ends, _, rfl, okM_zero _ hok.2.2.1, by omega, part0_lt G.ends, Nat.zero_le _, rfl, h3, h0, by rw [part0_len]; exact (hok.2.2.1 ▸ H)⟩) ?_
    repeat clear H
    rintro ρ ds w ⟨f, many, part, pv, hgo, hM, hf, hpl, hmn, h6, h3, h0, H⟩
    have h6o := h6
    obtain ⟨g1, g2, g3, g4⟩ := refF_grow hM
    have hpn := hM.1
    obtain ⟨pa, pc, rfl⟩ := (H.sl 1 rfl).shape
    refine WC.block ?_
    refine WC.seq ?_
    refine WC.region ?_
    refine l_st rfl (s_makeMap H (fun m36 w H => ?_))
    have H := Hd.weak H (Mp.made TS)
    refine l_rd rfl rfl (x_assign (by conv => lhs; whnf)) ?_
    refine WL.nil ?_
    refine WC.seq ?_
    refine WC.region ?_
    refine l_rd rfl rfl (x_load Tryz.underlying176 rfl h3 (H.cellL 1 rfl rfl)) ?_
    refine l_rd rfl rfl (x_lenSlice Tryz.underlying176 rfl rfl) ?_
    refine l_st rfl (s_makeRow Tryz.underlying176 ty3 rfl rfl rfl (by omega) (by omega) H (fun b39 w H => ?_))
    refine l_rd rfl rfl (x_assign (by conv => lhs; whnf)) ?_
    refine WL.nil ?_
    refine WC.seq ?_
    refine WC.seq ?_
    refine WC.region ?_
    refine l_rd rfl rfl (x_move h0) ?_
    refine l_rd rfl rfl (x_nilCheck rfl) ?_
    refine l_rd rfl rfl (x_fieldAddr (k := 0) Tryz.underlying136 rfl rfl ty133 (by decide) rfl) ?_
    refine l_rd rfl rfl (x_load Tryz.underlying133 rfl rfl (cell_ofL ((H.fz 5 rfl) _ _ ha) rfl)) ?_
    refine l_rd rfl rfl (x_lenSlice Tryz.underlying133 rfl rfl) ?_
    refine l_rd rfl rfl (x_move ev_c) ?_
    refine WL.nil ?_
    refine WC.block ?_
    refine WC.loop (fun ρ ds w => ∃ (k : Nat) (a2 : List (ByteArray × Nat) × List Nat), k ≤ G.rows.length ∧ a2 = ((G.rows.zip part).take k).foldl (refS part) ([], []) ∧ ρ 45 = I k ∧ ρ 44 = I G.rows.length ∧ ρ 7 = .map (some m36) ∧ ρ 8 = .slice (some ⟨b39, 0, none⟩) part.length part.length ∧ ρ 6 = I many ∧ ρ 3 = .pointer (some ⟨b3, 0, none⟩) ∧ ρ 0 = .pointer (some ⟨a, 0, none⟩) ∧ Hd s w (pt b3 (.cells #[.slice pa part.length pc] 176 (0, 0)) :: Sl (.slice pa part.length pc) 3 1 part.length (part.map nI) :: Mp TS m36 (a2.1.map (gval nI)) :: Sl (.slice (some ⟨b39, 0, none⟩) part.length part.length) 3 1 part.length ((nextA a2.2 part.length).map nI) :: MK ds :: fz g :: fr w0 :: L)) (fun ρ w => G.rows.length - (match ρ 45 with | .int _ k => k.toNat | _ => 0)) (⟨0, ([], []), Nat.zero_le _, rfl, rfl, rfl, rfl, rfl, h6, h3, h0, by rw [nextA_0]; exact Hd.arrT [_, _, _, _, _, _, _] [2, 3, 1, 0, 4, 5, 6] (by decide) rfl H⟩) ?_
    repeat clear H
    rintro ρ ds w ⟨k, a2, hk, ha2, h45, h44, h7, h8, h6, h3, h0, H⟩
    have hzl : (G.rows.zip part).length = G.rows.length := by rw [List.length_zip, hpn, Nat.min_self]
    have hI := refI.take part (G.rows.zip part) k (by omega)
    rw [← ha2] at hI
    have hI1 : a2.2.length = k := by have := hI.2.1; rw [List.length_take] at this; omega
    have hI2 : a2.1.length ≤ k := by have := hI.2.2.1; rw [List.length_take] at this; omega
    refine WC.seq ?_
    refine WC.region ?_
    refine l_rdD rfl rfl (x_lss h45 h44) (fun h46 => ?_) (fun h46 => ?_)
    ·
      refine WL.nil ?_
      refine WC.seq ?_
      refine WC.cond1 rfl ?_
      refine WC.skip ?_
      refine WC.seq ?_
      refine WC.block ?_
      refine WC.seq ?_
      refine WC.region ?_
      refine l_rd rfl rfl (x_move h45) ?_
      refine l_rd rfl rfl (x_assign (by conv => lhs; whnf)) ?_
      refine WL.nil ?_
      refine WC.seq ?_
      obtain ⟨row, hrow⟩ := lt_get (show k < G.rows.length by omega)
      obtain ⟨p, hp⟩ := lt_get (show k < part.length by omega)
      have hz : (G.rows.zip part)[k]? = some (row, p) := by rw [List.getElem?_zip_eq_some]; exact ⟨hrow, hp⟩
      have hro := hok.2.2.2 row (List.mem_of_getElem? hrow)
      have hpb := hpl p (List.mem_of_getElem? hp)
      obtain ⟨b7, o7, rfl, hc7⟩ := (show RdL w (.slice pa part.length pc) nI part from H.sl 1 rfl).el hp
      refine WC.region ?_
      refine l_rd rfl rfl (x_load Tryz.underlying176 rfl h3 (H.cellL 0 rfl rfl)) ?_
      refine l_rd rfl rfl (x_move (by conv => lhs; whnf)) ?_
      refine l_rd rfl rfl (x_indexAddr Tryz.underlying176 ty3 rfl rfl (by omega) (by omega)) ?_
      refine l_rd rfl rfl (x_load Tryz.underlying3 rfl rfl hc7) ?_
      refine l_st rfl (s_callL cal184 (c184 _ (hT.old (H.old 6 rfl)) (by omega) (by omega)) ?_)
      rintro _ w ⟨rfl, e1⟩
      have H := H.ext e1
      refine l_st rfl (s_alloc ty9 H fun b10 w H => ?_)
      refine l_no (s_st 0 rfl ty9 rfl (by conv => lhs; whnf) rfl rfl H fun w H => ?_)
      refine WL.nil ?_
      refine WC.seq ?_
      refine WC.seq ?_
      refine WC.region ?_
      refine l_rd rfl rfl (x_move h0) ?_
      refine l_rd rfl rfl (x_move (by conv => lhs; whnf)) ?_
      refine l_st rfl (s_callL cal136 (c136 _ H) ?_)
      rintro _ w ⟨x1, x2, rfl, H⟩
      refine WL.nil ?_
      refine WC.block ?_
      have H := Hd.arrT [_, _, _, _, _, _, _, _, _, _] [2, 3, 4, 9, 0, 1, 8, 5, 6, 7] (by decide) rfl H
      have H := Hd.starAt [_, _, _, _] (Hd.starAt [_, _, _, _, _] H)
      have H := Hd.sep (A := [pt b10 (.cells #[S (([] : Row).foldl (rkS part) (itoaS p))] 9 (0, 0)), pt b3 (.cells #[.slice (some ⟨b7, o7, none⟩) part.length pc] 176 (0, 0)), Sl (.slice (some ⟨b7, o7, none⟩) part.length pc) 3 1 part.length (part.map nI), fr w0]) H
      refine WC.rangeFn (P := Tryz.prog) (caps := [.pointer (some ⟨x1, 0, none⟩), .pointer (some ⟨x2, 0, none⟩)]) (E := eR) (xs := row) (A := star (pt x1 (.cells #[.pointer (some ⟨a, 0, none⟩)] 130 (0, 0))) (star (pt x2 (.cells #[I k] 3 (0, 0))) (fz g))) (B := fun _ => star (pt x1 (.cells #[.pointer (some ⟨a, 0, none⟩)] 130 (0, 0))) (star (pt x2 (.cells #[I k] 3 (0, 0))) (fz g))) (I := fun pre => sep [pt b10 (.cells #[S (pre.foldl (rkS part) (itoaS p))] 9 (0, 0)), pt b3 (.cells #[.slice (some ⟨b7, o7, none⟩) part.length pc] 176 (0, 0)), Sl (.slice (some ⟨b7, o7, none⟩) part.length pc) 3 1 part.length (part.map nI), fr w0]) (X := fun _ _ => fun _ => False) (L := Mp TS m36 (a2.1.map (gval nI)) :: Sl (.slice (some ⟨b39, 0, none⟩) part.length part.length) 3 1 part.length ((nextA a2.2 part.length).map nI) :: MK ds :: L) rfl cal190 (by decide) (fun x vs h hv => by have : vs = _ := hv; rw [this]; rfl) (it190 hl hG ha hrow hro) H ?_ ?_ ?_
      ·
        intro l pre x rest vs w L' L2 hxs hrec H
        obtain ⟨hh, _, hvs⟩ := H.fact_at 1 rfl
        have hvs : vs = [S x.1, nI x.2] := hvs
        subst hvs
        refine WC.seq ?_
        refine WC.region ?_
        refine l_rd rfl rfl (x_assign (by conv => lhs; whnf)) ?_
        refine WL.nil ?_
        refine WC.region ?_
        refine l_rd rfl rfl (x_assign (by conv => lhs; whnf)) ?_
        refine WL.nil ?_
        refine ⟨⟨[_, _], H⟩, fun w2 hw2 => ?_⟩
        clear hrec
        have H := Hd.arrT [_, _] [0] (by decide) rfl (hw2 [_, _] H)
        clear hw2
        have H := Hd.unsep (A := [pt b10 (.cells #[S (pre.foldl (rkS part) (itoaS p))] 9 (0, 0)), pt b3 (.cells #[.slice (some ⟨b7, o7, none⟩) part.length pc] 176 (0, 0)), Sl (.slice (some ⟨b7, o7, none⟩) part.length pc) 3 1 part.length (part.map nI), fr w0]) H
        have hxm := hro.2 x (by rw [hxs]; simp)
        have hxs1 := hro.size hl x (by rw [hxs]; simp)
        have hprl : pre.length ≤ 24 := by have h1 := hro.len hl; rw [hxs] at h1; simp only [List.length_append] at h1; omega
        have hks := rowKey_size hpl (row := pre) (k := itoaS p) (fun q hq => hro.size hl q (by rw [hxs]; exact List.mem_append_left _ hq))
        have hks2 := itoaS_le p (by omega) (by omega)
        obtain ⟨q, hq⟩ := lt_get (show x.2 < part.length by omega)
        have hqb := hpl q (List.mem_of_getElem? hq)
        have hqd : part.getD x.2 0 = q := by rw [List.getD_eq_getElem?_getD, hq]; rfl
        have hks3 := itoaS_le q (by omega) (by omega)
        have hsp9 : sp.size = 1 := rfl
        refine WC.block ?_
        refine WC.draw mixed [8, 11] [[], [], [1], [1, 2], [], [], [4, 5], [4, 5, 6], [4, 5, 6, 7], [1, 2, 3, 4, 5, 6, 7, 8], [0, 1, 2, 3, 4, 5, 6, 7, 8, 9], [0, 1, 2, 3, 4, 5, 6, 7, 8, 9, 10]] [0, 1, 2, 3, 4, 5, 6, 7, 8, 9, 10, 11] (by kernel_rfl) ?_
        have H := H.drew
        refine k_rd rfl rfl (RS.of rfl rfl (x_load Tryz.underlying9 rfl rfl (H.cellL 0 rfl rfl))) ?_
        refine k_rd rfl rfl (RS.of rfl rfl (x_move (by conv => lhs; whnf))) ?_
        refine k_rd rfl rfl (RS.of rfl rfl (x_addS (a := sp) (b := x.1) rfl rfl (by omega))) ?_
        refine k_rd rfl rfl (RS.of rfl rfl (x_addS (a := sp ++ x.1) (b := sp) rfl rfl (by simp only [ByteArray.size_append]; omega))) ?_
        refine k_rd rfl rfl (RS.of rfl rfl (x_load Tryz.underlying176 rfl h3 (H.cellL 1 rfl rfl))) ?_
        refine k_rd rfl rfl (RS.of rfl rfl (x_move (by conv => lhs; whnf))) ?_
        refine k_rd rfl rfl (RS.of rfl rfl (x_indexAddr Tryz.underlying176 ty3 rfl rfl (by omega) (by omega))) ?_
        refine k_rd rfl rfl (RS.of rfl rfl (x_load Tryz.underlying3 rfl rfl (RdL.at_ (show RdL _ (.slice (some ⟨b7, o7, none⟩) part.length pc) nI part from H.sl 2 rfl) hq))) ?_
        refine k_st rfl rfl rfl (s_callL cal184 (c184 _ (hT.old (H.old 3 rfl)) (by omega) (by omega)) ?_)
        rintro _ w ⟨rfl, e1⟩
        have H := H.ext e1
        refine ⟨⟨trivial, ⟨trivial, ⟨trivial, ⟨trivial, ⟨RS.of rfl rfl (x_addS (a := sp ++ x.1) (b := sp) rfl rfl (by simp only [ByteArray.size_append]; omega)), ⟨RS.of rfl rfl (x_addS (a := sp) (b := x.1) rfl rfl (by omega)), ⟨RS.of rfl rfl (x_move (by (conv => lhs; whnf); try rfl)), ⟨RS.of rfl rfl (x_load Tryz.underlying9 rfl rfl (H.cellL 0 rfl rfl)), trivial⟩⟩⟩⟩⟩⟩⟩⟩, ?_⟩
        refine k_rd rfl rfl (RS.of rfl rfl (x_addS  rfl rfl (by simp only [ByteArray.size_append]; omega))) ?_
        refine k_rd rfl rfl (RS.of rfl rfl (x_addS  rfl rfl (by simp only [ByteArray.size_append]; omega))) ?_
        refine k_no rfl rfl rfl (s_st 0 rfl ty9 rfl (by conv => lhs; whnf) rfl rfl H fun w H => ⟨⟨trivial, ⟨trivial, ⟨trivial, ⟨trivial, ⟨trivial, ⟨trivial, ⟨trivial, ⟨trivial, ⟨trivial, ⟨trivial, trivial⟩⟩⟩⟩⟩⟩⟩⟩⟩⟩, ?_⟩)
        show _
        exact Hd.sep (A := [pt b10 (.cells #[S ((pre ++ [x]).foldl (rkS part) (itoaS p))] 9 (0, 0)), pt b3 (.cells #[.slice (some ⟨b7, o7, none⟩) part.length pc] 176 (0, 0)), Sl (.slice (some ⟨b7, o7, none⟩) part.length pc) 3 1 part.length (part.map nI), fr w0]) (by rw [List.foldl_append]; show Hd _ _ (pt b10 (.cells #[S (rkS part _ x)] 9 (0, 0)) :: _); unfold rkS; rw [hqd]; exact Hd.arrT [_, _, _, _] [0, 1, 2, 3] (by decide) rfl H)
      ·
        intro w m H
        have H := Hd.unsep (A := [pt b10 (.cells #[S (row.foldl (rkS part) (itoaS p))] 9 (0, 0)), pt b3 (.cells #[.slice (some ⟨b7, o7, none⟩) part.length pc] 176 (0, 0)), Sl (.slice (some ⟨b7, o7, none⟩) part.length pc) 3 1 part.length (part.map nI), fr w0]) H
        have H := Hd.unstarAt [_, _, _, _, _] (Hd.unstarAt [_, _, _, _] H)
        have H := MK.cons (Hd.arrT [_, _, _, _, _, _, _, _, _, _, _] [7, 10, 0, 1, 2, 3, 4, 5, 6, 8, 9] (by decide) rfl H)
        cases hk2 : glook (rowKey part p row) a2.1 with
        | none =>
          refine WC.seq ?_
          refine WC.region ?_
          refine l_rd rfl rfl (x_move h7) ?_
          refine l_rd rfl rfl (x_load Tryz.underlying9 rfl rfl (H.cellL 1 rfl rfl)) ?_
          refine l_rd rfl rfl (x_lookM TS Tryz.underlying77 ty3 rfl rfl H 8 rfl (show _ = Value.tuple #[I 0, .bool false] by rw [alook_g]; show lkV true _ (Option.map nI (glook (rowKey part p row) a2.1)) = _; rw [hk2]; rfl)) ?_
          refine l_rd rfl rfl (x_move (by conv => lhs; whnf)) ?_
          refine l_rd rfl rfl (x_extract rfl rfl) ?_
          refine l_rd rfl rfl (x_extract rfl rfl) ?_
          refine l_rd rfl rfl (x_assign (by conv => lhs; whnf)) ?_
          refine l_rd rfl rfl (x_assign (by conv => lhs; whnf)) ?_
          refine WL.nil ?_
          refine WC.seq ?_
          refine WC.seq ?_
          refine WC.region ?_
          refine l_rd rfl rfl (x_move (by conv => lhs; whnf)) ?_
          refine l_rd rfl rfl (x_not rfl) ?_
          refine WL.nil ?_
          refine WC.cond1 rfl ?_
          refine WC.seq ?_
          refine WC.region ?_
          refine l_rd rfl rfl (x_move h7) ?_
          refine l_rd rfl rfl (x_lenMpG TS Tryz.underlying77 rfl rfl H 8 rfl) ?_
          refine l_rd rfl rfl (x_assign (by conv => lhs; whnf)) ?_
          refine WL.nil ?_
          refine WC.region ?_
          refine l_rd rfl rfl (x_move h7) ?_
          refine l_rd rfl rfl (x_load Tryz.underlying9 rfl rfl (H.cellL 1 rfl rfl)) ?_
          refine l_rd rfl rfl (x_move (by conv => lhs; whnf)) ?_
          refine l_no (s_mapUpdate TS Tryz.underlying77 8 rfl rfl rfl (by conv => lhs; whnf) H (fun w H => ?_))
          rw [aset_g nI] at H
          refine WL.nil ?_
          refine WC.region ?_
          refine l_rd rfl rfl (x_move h8) ?_
          refine l_rd rfl rfl (x_move (by conv => lhs; whnf)) ?_
          refine l_rd rfl rfl (x_move (by conv => lhs; whnf)) ?_
          refine l_rd rfl rfl (x_indexAddr Tryz.underlying176 ty3 rfl rfl (by omega) (by omega)) ?_
          refine l_no (s_storeElF (f := nI) (u := a2.1.length) (k := k) 9 rfl rfl (by omega) ty3 rfl rfl rfl H (fun w H => ?_))
          rw [nextA_set a2.1.length hI1 (by omega)] at H
          refine WL.nil ?_
          refine WC.region ?_
          refine l_rd rfl rfl (x_add h45 rfl (by omega) (by omega)) ?_
          refine l_rd rfl rfl (x_move (by conv => lhs; whnf)) ?_
          refine WL.nil ?_
          refine WC.again (⟨k + 1, refS part a2 (row, p), by omega, by rw [foldl_take _ _ hz, ← ha2], rfl, h44, h7, h8, h6, h3, h0, by rw [refS_new hk2]; exact Hd.arrT [_, _, _, _, _, _, _, _, _, _] [2, 3, 8, 9, 0, 7, 4] (by decide) rfl H⟩) (by show _ - _ < _ - _; rw [h45]; show G.rows.length - ((k : Int) + 1).toNat < G.rows.length - (k : Int).toNat; omega)
        | some j =>
          refine WC.seq ?_
          refine WC.region ?_
          refine l_rd rfl rfl (x_move h7) ?_
          refine l_rd rfl rfl (x_load Tryz.underlying9 rfl rfl (H.cellL 1 rfl rfl)) ?_
          refine l_rd rfl rfl (x_lookM TS Tryz.underlying77 ty3 rfl rfl H 8 rfl (show _ = Value.tuple #[nI j, .bool true] by rw [alook_g]; show lkV true _ (Option.map nI (glook (rowKey part p row) a2.1)) = _; rw [hk2]; rfl)) ?_
          refine l_rd rfl rfl (x_move (by conv => lhs; whnf)) ?_
          refine l_rd rfl rfl (x_extract rfl rfl) ?_
          refine l_rd rfl rfl (x_extract rfl rfl) ?_
          refine l_rd rfl rfl (x_assign (by conv => lhs; whnf)) ?_
          refine l_rd rfl rfl (x_assign (by conv => lhs; whnf)) ?_
          refine WL.nil ?_
          refine WC.seq ?_
          refine WC.seq ?_
          refine WC.region ?_
          refine l_rd rfl rfl (x_move (by conv => lhs; whnf)) ?_
          refine l_rd rfl rfl (x_not rfl) ?_
          refine WL.nil ?_
          refine WC.cond0 rfl ?_
          refine WC.skip ?_
          refine WC.region ?_
          refine l_rd rfl rfl (x_move h8) ?_
          refine l_rd rfl rfl (x_move (by conv => lhs; whnf)) ?_
          refine l_rd rfl rfl (x_move (by conv => lhs; whnf)) ?_
          refine l_rd rfl rfl (x_indexAddr Tryz.underlying176 ty3 rfl rfl (by omega) (by omega)) ?_
          refine l_no (s_storeElF (f := nI) (u := j) (k := k) 9 rfl rfl (by omega) ty3 rfl rfl rfl H (fun w H => ?_))
          rw [nextA_set j hI1 (by omega)] at H
          refine WL.nil ?_
          refine WC.region ?_
          refine l_rd rfl rfl (x_add h45 rfl (by omega) (by omega)) ?_
          refine l_rd rfl rfl (x_move (by conv => lhs; whnf)) ?_
          refine WL.nil ?_
          refine WC.again (⟨k + 1, refS part a2 (row, p), by omega, by rw [foldl_take _ _ hz, ← ha2], rfl, h44, h7, h8, h6, h3, h0, by rw [refS_old hk2]; exact Hd.arrT [_, _, _, _, _, _, _, _, _, _] [2, 3, 8, 9, 0, 7, 4] (by decide) rfl H⟩) (by show _ - _ < _ - _; rw [h45]; show G.rows.length - ((k : Int) + 1).toNat < G.rows.length - (k : Int).toNat; omega)
      ·
        intro w m c pre x rest hxs H
        obtain ⟨hh, _, hF⟩ := H.fact_at 0 rfl
        exact hF.elim
    ·
      refine WL.nil ?_
      refine WC.seq ?_
      refine WC.cond0 rfl ?_
      refine WC.exit ?_
      refine WC.seq ?_
      refine WC.region ?_
      refine l_rd rfl rfl (x_move h8) ?_
      refine l_no (s_st 0 rfl ty176 h3 (by conv => lhs; whnf) rfl rfl H fun w H => ?_)
      refine WL.nil ?_
      refine WC.seq ?_
      refine WC.seq ?_
      refine WC.region ?_
      refine l_rd rfl rfl (x_move h7) ?_
      refine l_rd rfl rfl (x_lenMpG TS Tryz.underlying77 rfl rfl H 2 rfl) ?_
      refine l_rd rfl rfl (x_move h6) ?_
      refine l_rdD rfl rfl (x_eql rfl rfl) (fun h91 => ?_) (fun h91 => ?_)
      ·
        have haF : a2 = refF part G.rows := by rw [ha2, List.take_of_length_le (by omega)]; rfl
        rw [haF] at H hI1 h91
        rw [nextA_all (by have := g3.1; omega)] at H
        refine WL.nil ?_
        refine WC.cond1 rfl ?_
        refine WC.exit ?_
        refine WC.seq ?_
        refine WC.region ?_
        refine l_rd rfl rfl (x_load Tryz.underlying176 rfl h3 (H.cellL 0 rfl rfl)) ?_
        refine l_rd rfl rfl (x_assign (by conv => lhs; whnf)) ?_
        refine WL.nil ?_
        refine WC.ret ?_
        refine atRet ?_
        refine RetM.marks _ (Hd.arrT [_, _, _, _, _, _, _] [4, 0, 1, 2, 3, 5, 6] (by decide) rfl H) (fun w H => ?_)
        exact RetM.one rfl (by (conv => lhs; whnf); try rfl) (by
              obtain ⟨f, rfl⟩ : ∃ f2, f = f2 + 1 := ⟨f - 1, by omega⟩
              rw [partsGo, if_pos (by omega)] at hgo
              rw [hgo, g3.1, ← hpn]
              exact Hd.arrT [_, _, _, _, _, _] [3, 4, 5] (by decide) rfl H)
      ·
        have haF : a2 = refF part G.rows := by rw [ha2, List.take_of_length_le (by omega)]; rfl
        rw [haF] at H hI1 h91
        rw [nextA_all (by have := g3.1; omega)] at H
        refine WL.nil ?_
        refine WC.cond0 rfl ?_
        refine WC.skip ?_
        refine WC.region ?_
        refine l_rd rfl rfl (x_move h7) ?_
        refine l_rd rfl rfl (x_lenMpG TS Tryz.underlying77 rfl rfl H 2 rfl) ?_
        refine l_rd rfl rfl (x_assign (by conv => lhs; whnf)) ?_
        refine WL.nil ?_
        obtain ⟨f, rfl⟩ : ∃ f2, f = f2 + 1 := ⟨f - 1, by omega⟩
        rw [partsGo, if_neg (by omega)] at hgo
        refine blockE_n ?_
        refine WC.again (⟨f, _, (refF part G.rows).2, _, hgo, g3, by omega, fun q hq => by have := g4 q hq; omega, g2, rfl, h3, h0, by rw [g3.1, ← hpn]; exact Hd.arrT [_, _, _, _, _, _, _] [0, 3, 4, 5, 6] (by decide) rfl H⟩) (by show _ - _ < _ - _; rw [h6o]; show G.rows.length + 1 - ((refF part G.rows).1.length : Int).toNat < G.rows.length + 1 - (many : Int).toNat; omega)
theorem ty239 : Ty Tryz.prog 239 (.map none) 1 8 := Ty.of (by kernel_rfl)
theorem cal135 : Cal Tryz.prog 135 := ⟨_, Tryz.func135, rfl, by decide⟩
abbrev TN : KT Tryz.prog 3 Nat := ktN Tryz.prog 3 Tryz.underlying3
theorem leastS_old {part : List Nat} {a : Ls} {x : ByteArray × Nat} {q j : Nat} (hq : part.getD x.2 0 = q) (h : glook q a.number = some j) : leastS part a x = { a with own := gset x.1 j a.own } := by unfold leastS; rw [hq, h]
theorem leastS_new {part : List Nat} {a : Ls} {x : ByteArray × Nat} {q : Nat} (hq : part.getD x.2 0 = q) (h : glook q a.number = none) : leastS part a x = ⟨gset q a.order.length a.number, a.order ++ [x.2], gset x.1 a.order.length a.own⟩ := by unfold leastS; rw [hq, h]
structure LsR (g g2 : KE.Sub) (G : Gr) (labels : List ByteArray) (at_ : Nat) (number : List (Nat × Nat)) (order : List Nat) (rows : List Row) (ends : List Bool) (ms : List Nat) : Prop where
  o : LsO G.rows.length labels at_ number order ⟨rows, ends⟩
  go : leastF G = leastGo (partsF G) G (G.rows.length + 1 - at_) at_ number order ⟨rows, ends⟩
  sub : sle g g2
  ml : ms.length = rows.length
  mp : ∀ (i m : Nat) (row : Row), ms[i]? = some m → rows[i]? = some row → MpG TS m (row.map (gval nI)) g2
theorem LsR.start {g : KE.Sub} {G : Gr} {labels : List ByteArray} (h : okG labels G) : LsR g g G labels 0 [((partsF G).getD 0 0, 0)] [0] [] [] [] := by
  obtain ⟨hp, hq⟩ := partsF_ok h
  have h0 : (partsF G).getD 0 0 < G.rows.length := by
    rw [List.getD_eq_getElem?_getD, List.getElem?_eq_getElem (by have := h.1; omega)]; exact hq _ (List.getElem_mem _)
  exact ⟨LsO.start h.1 h0, rfl, sle.refl g, rfl, fun i m row a _ => by simp at a⟩
theorem LsR.next {g g2 g3 : KE.Sub} {G : Gr} {labels : List ByteArray} {at_ s0 m : Nat} {number : List (Nat × Nat)} {order : List Nat} {rows : List Row} {ends : List Bool} {ms : List Nat} {row : Row} {e : Bool} (h : LsR g g2 G labels at_ number order rows ends ms) (hl : labels.Nodup) (hok : okG labels G) (hs : order[at_]? = some s0) (hr : G.rows[s0]? = some row) (he : G.ends[s0]? = some e)
    (hle : sle g2 g3) (hm : MpG TS m ((row.foldl (leastS (partsF G)) ⟨number, order, []⟩).own.map (gval nI)) g3) : LsR g g3 G labels (at_ + 1) (row.foldl (leastS (partsF G)) ⟨number, order, []⟩).number (row.foldl (leastS (partsF G)) ⟨number, order, []⟩).order (rows ++ [(row.foldl (leastS (partsF G)) ⟨number, order, []⟩).own]) (ends ++ [e]) (ms ++ [m]) := by
  obtain ⟨hp, hq⟩ := partsF_ok hok
  have hro := hok.2.2.2 row (List.mem_of_getElem? hr)
  have hlt := (List.getElem?_eq_some_iff.1 hs).1
  have hf := h.o.few
  refine ⟨h.o.next hp hq hro hl hs, ?_, h.sub.trans hle, by simp [h.ml], fun i m' row' a b => ?_⟩
  · rw [h.go, show G.rows.length + 1 - at_ = (G.rows.length + 1 - (at_ + 1)) + 1 by omega, leastGo, hs]
    simp only []
    rw [show G.rows.getD s0 [] = row by rw [List.getD_eq_getElem?_getD, hr]; rfl, show G.ends.getD s0 false = e by rw [List.getD_eq_getElem?_getD, he]; rfl]
  · rcases get_snoc a with a | ⟨a, rfl⟩ <;> rcases get_snoc b with b | ⟨b, rfl⟩
    · exact (h.mp i m' row' a b).mono hle
    · have := (List.getElem?_eq_some_iff.1 a).1; have := h.ml; omega
    · have := (List.getElem?_eq_some_iff.1 b).1; have := h.ml; omega
    · exact hm
theorem LsR.graph {g g2 g3 : KE.Sub} {G : Gr} {labels : List ByteArray} {at_ : Nat} {number : List (Nat × Nat)} {order : List Nat} {rows : List Row} {ends : List Bool} {ms : List Nat} {rv ev : Value} (h : LsR g g2 G labels at_ number order rows ends ms) (hge : order.length ≤ at_) (hle : sle g2 g3) (h1 : Fx g3 (fun w => RdC w rv 1 rows.length (ms.map mI))) (h2 : Fx g3 (fun w => RdC w ev 1 ends.length (ends.map Value.bool))) : GrG g3 rv ev (leastF G) := by
  have hf := h.o.few
  have hh := h.o.here
  have e : leastF G = ⟨rows, ends⟩ := by
    rw [h.go, show G.rows.length + 1 - at_ = (G.rows.length - at_) + 1 by omega, leastGo, List.getElem?_eq_none hge]
  rw [e]
  exact ⟨ms, fun w hw => ⟨by unfold RdL; rw [h.ml]; exact h1 w hw, h2 w hw⟩, h.ml, fun i m row a b => (h.mp i m row a b).mono hle⟩
theorem c68 {s : Sy} [NoEx s] {L : List Hp} {g : KE.Sub} {w0 : World} {a : Nat} {rv ev : Value} {f0 : Nat × Nat} {G : Gr} {labels : List ByteArray} (w : World) (hT : TB w0) (hl : okL labels) (hG : GrG g rv ev G) (ha : g a = some (.cells #[rv, ev] 136 f0)) (hok : okG labels G) (H : Hd s w (fz g :: fr w0 :: L)) : CC Tryz.prog 68 [.pointer (some ⟨a, 0, none⟩)].toArray w (fun r w' => ∃ (rv2 ev2 : Value) (g' : KE.Sub), r = .agg #[rv2, ev2] ∧ sle g g' ∧ GrG g' rv2 ev2 (leastF G) ∧ Hd s w' (fz g' :: fr w0 :: L)) := by
  have h256 := hok.2.1
  have h1le := hok.1
  have hel := hok.2.2.1
  have hGG := hG
  obtain ⟨ms0, hF0, -, -⟩ := hGG
  obtain ⟨ea, ec, rfl⟩ := (hF0.at H 0 rfl).2.shape
  refine CC.of (N := 83) Tryz.func68 rfl rfl rfl ?_
  refine WC.seq ?_
  refine WC.region ?_
  refine l_st rfl (s_alloc ty136 H fun b2 w H => ?_)
  refine WL.nil ?_
  refine WC.seq ?_
  refine WC.region ?_
  refine l_rd rfl rfl (x_move (by conv => lhs; whnf)) ?_
  refine l_st rfl (s_callL cal135 (c135 _ hT hl hG ha hok (Hd.arrT [_, _, _] [1, 2, 0] (by decide) rfl H)) ?_)
  rintro v13 w H
  obtain ⟨hpl, hpq⟩ := partsF_ok hok
  obtain ⟨pa, pc, rfl⟩ := (H.sl 0 rfl).shape
  obtain ⟨p0, hp0⟩ := lt_get (show 0 < (partsF G).length by omega)
  obtain ⟨pb, po, rfl, -⟩ := (show RdL w (.slice pa (partsF G).length pc) nI (partsF G) from H.sl 0 rfl).el hp0
  have hpd : (partsF G).getD 0 0 = p0 := by rw [List.getD_eq_getElem?_getD, hp0]; rfl
  refine l_st rfl (s_alloc ty176 H fun b3 w H => ?_)
  refine l_no (s_st 0 rfl ty176 rfl (by conv => lhs; whnf) rfl rfl H fun w H => ?_)
  refine WL.nil ?_
  refine WC.seq ?_
  refine WC.region ?_
  refine l_st rfl (s_makeMap H (fun m14 w H => ?_))
  have H := Hd.weak H (Mp.made TN)
  refine l_rd rfl rfl (x_load Tryz.underlying176 rfl rfl (H.cellL 1 rfl rfl)) ?_
  refine l_rd rfl rfl (x_indexAddr Tryz.underlying176 ty3 rfl rfl (by omega) (by omega)) ?_
  refine l_rd rfl rfl (x_load Tryz.underlying3 rfl rfl (RdL.at_ (show RdL _ (.slice (some ⟨pb, po, none⟩) (partsF G).length pc) nI (partsF G) from H.sl 2 rfl) hp0)) ?_
  refine l_no (s_insert TN Tryz.underlying239 0 rfl rfl rfl ev_c H (fun w H => ?_))
  refine l_rd rfl rfl (x_move (by conv => lhs; whnf)) ?_
  refine l_st rfl (s_alloc ty239 H fun b4 w H => ?_)
  refine l_no (s_st 0 rfl ty239 rfl (by conv => lhs; whnf) rfl rfl H fun w H => ?_)
  refine WL.nil ?_
  refine WC.seq ?_
  refine WC.region ?_
  refine l_st rfl (s_build1 Tryz.underlying176 ty3 rfl ev_c rfl H fun b19 w H => ?_)
  refine l_st rfl (s_alloc ty176 H fun b5 w H => ?_)
  refine l_no (s_st 0 rfl ty176 rfl (by conv => lhs; whnf) rfl rfl H fun w H => ?_)
  refine WL.nil ?_
  refine WC.seq ?_
  refine WC.seq ?_
  refine WC.region ?_
  refine l_rd rfl rfl (x_assign ev_c) ?_
  refine WL.nil ?_
  refine WC.block ?_
  have H := MK.nil (Hd.nil (Hd.nil H 4 1) 235 1)
  refine WC.loop (fun ρ ds w => ∃ (at_ : Nat) (number : List (Nat × Nat)) (order : List Nat) (rows : List Row) (ends : List Bool) (ms2 : List Nat) (rvv evv ov : Value) (g2 : KE.Sub), LsR g g2 G labels at_ number order rows ends ms2 ∧ ρ 6 = I at_ ∧ ρ 0 = .pointer (some ⟨a, 0, none⟩) ∧ ρ 2 = .pointer (some ⟨b2, 0, none⟩) ∧ ρ 3 = .pointer (some ⟨b3, 0, none⟩) ∧ ρ 4 = .pointer (some ⟨b4, 0, none⟩) ∧ ρ 5 = .pointer (some ⟨b5, 0, none⟩) ∧ Hd s w (pt b2 (.cells #[rvv, evv] 136 (0, 0)) :: Sl rvv 235 1 rows.length (ms2.map mI) :: Sl evv 4 1 ends.length (ends.map Value.bool) :: pt b3 (.cells #[.slice (some ⟨pb, po, none⟩) (partsF G).length pc] 176 (0, 0)) :: Sl (.slice (some ⟨pb, po, none⟩) (partsF G).length pc) 3 1 (partsF G).length ((partsF G).map nI) :: pt b4 (.cells #[.map (some m14)] 239 (0, 0)) :: Mp TN m14 (number.map (gval nI)) :: pt b5 (.cells #[ov] 176 (0, 0)) :: Sl ov 3 1 order.length (order.map nI) :: MK ds :: fz g2 :: fr w0 :: L)) (fun ρ w => G.rows.length + 1 - (match ρ 6 with | .int _ k => k.toNat | _ => 0)) (⟨0, [((partsF G).getD 0 0, 0)], [0], [], [], [], _, _, _, g, LsR.start hok, rfl, rfl, rfl, rfl, rfl, rfl, by rw [hpd]; exact Hd.arrT [_, _, _, _, _, _, _, _, _, _, _, _] [11, 1, 2, 7, 8, 5, 6, 3, 4, 0, 9, 10] (by decide) rfl H⟩) ?_
  repeat clear H
  rintro ρ ds w ⟨at_, number, order, rows, ends, ms2, rvv, evv, ov, g2, hS, h6, h0, h2, h3, h4, h5, H⟩
  have h6o := h6
  obtain ⟨oa, oc, rfl⟩ := (H.sl 8 rfl).shape
  obtain ⟨ra2, rc2, rfl⟩ := (H.sl 1 rfl).shape
  obtain ⟨ea2, ec2, rfl⟩ := (H.sl 2 rfl).shape
  have hS1 := hS.o
  have hof := hS1.few
  have hoh := hS1.here
  have hor1 := hS1.rows
  have hor2 := hS1.ends
  have hrl : rows.length = at_ := hor1
  have hel2 : ends.length = at_ := hor2
  have ha2 := hS.sub _ _ ha
  have hG2 := hG.mono hS.sub
  refine WC.seq ?_
  refine WC.seq ?_
  refine WC.region ?_
  refine l_rd rfl rfl (x_move h6) ?_
  refine l_rd rfl rfl (x_load Tryz.underlying176 rfl h5 (H.cellL 7 rfl rfl)) ?_
  refine l_rd rfl rfl (x_lenSlice Tryz.underlying176 rfl rfl) ?_
  refine l_rdD rfl rfl (x_lss rfl rfl) (fun h23 => ?_) (fun h23 => ?_)
  ·
    refine WL.nil ?_
    refine WC.cond1 rfl ?_
    refine WC.skip ?_
    refine WC.seq ?_
    refine WC.block ?_
    refine WC.seq ?_
    obtain ⟨s0, hs0⟩ := lt_get (show at_ < order.length by omega)
    have hsn := hS1.ord s0 (List.mem_of_getElem? hs0)
    obtain ⟨row, hrow⟩ := lt_get hsn
    obtain ⟨e, he⟩ := lt_get (show s0 < G.ends.length by omega)
    have hro := hok.2.2.2 row (List.mem_of_getElem? hrow)
    have hlt := fun m hm => lsI.take (labels := labels) hpl hpq hro hl.2.1 hS1.nd hS1.len hS1.num hS1.ord m hm
    obtain ⟨ob, oo, rfl, -⟩ := (show RdL w (.slice oa order.length oc) nI order from H.sl 8 rfl).el hs0
    refine WC.region ?_
    refine l_st rfl (s_makeMap H (fun m26 w H => ?_))
    have H := Hd.weak H (Mp.made TS)
    refine l_st rfl (s_alloc ty235 H fun b7 w H => ?_)
    refine l_no (s_st 0 rfl ty235 rfl (by conv => lhs; whnf) rfl rfl H fun w H => ?_)
    refine WL.nil ?_
    refine WC.seq ?_
    refine WC.seq ?_
    refine WC.region ?_
    refine l_rd rfl rfl (x_move h0) ?_
    refine l_rd rfl rfl (x_load Tryz.underlying176 rfl h5 (H.cellL 9 rfl rfl)) ?_
    refine l_rd rfl rfl (x_move h6) ?_
    refine l_rd rfl rfl (x_indexAddr Tryz.underlying176 ty3 rfl rfl (by omega) (by omega)) ?_
    refine l_rd rfl rfl (x_load Tryz.underlying3 rfl rfl (RdL.at_ (show RdL _ (.slice (some ⟨ob, oo, none⟩) order.length oc) nI order from H.sl 10 rfl) hs0)) ?_
    refine l_st rfl (s_callL cal136 (c136 _ H) ?_)
    rintro _ w ⟨x1, x2, rfl, H⟩
    refine WL.nil ?_
    refine WC.block ?_
    have H := Hd.arrT [_, _, _, _, _, _, _, _, _, _, _, _, _, _, _, _] [9, 10, 7, 8, 11, 12, 2, 3, 15, 0, 1, 14, 4, 5, 6, 13] (by decide) rfl H
    have H := Hd.starAt [_, _, _, _, _, _, _, _, _] (Hd.starAt [_, _, _, _, _, _, _, _, _, _] H)
    have H := PX.mk (α := Value) (φ := fun _ => True) (A := (fun ov : Value => [pt b4 (.cells #[.map (some m14)] 239 (0, 0)), Mp TN m14 ((([] : Row).foldl (leastS (partsF G)) ⟨number, order, []⟩).number.map (gval nI)), pt b3 (.cells #[.slice (some ⟨pb, po, none⟩) (partsF G).length pc] 176 (0, 0)), Sl (.slice (some ⟨pb, po, none⟩) (partsF G).length pc) 3 1 (partsF G).length ((partsF G).map nI), pt b5 (.cells #[ov] 176 (0, 0)), Sl ov 3 1 (([] : Row).foldl (leastS (partsF G)) ⟨number, order, []⟩).order.length ((([] : Row).foldl (leastS (partsF G)) ⟨number, order, []⟩).order.map nI), pt b7 (.cells #[.map (some m26)] 235 (0, 0)), Mp TS m26 ((([] : Row).foldl (leastS (partsF G)) ⟨number, order, []⟩).own.map (gval nI)), fr w0])) _ trivial H
    refine WC.rangeFn (P := Tryz.prog) (caps := [.pointer (some ⟨x1, 0, none⟩), .pointer (some ⟨x2, 0, none⟩)]) (E := eR) (xs := row) (A := star (pt x1 (.cells #[.pointer (some ⟨a, 0, none⟩)] 130 (0, 0))) (star (pt x2 (.cells #[I s0] 3 (0, 0))) (fz g2))) (B := fun _ => star (pt x1 (.cells #[.pointer (some ⟨a, 0, none⟩)] 130 (0, 0))) (star (pt x2 (.cells #[I s0] 3 (0, 0))) (fz g2))) (I := fun pre => PX (fun _ => True) (fun ov : Value => [pt b4 (.cells #[.map (some m14)] 239 (0, 0)), Mp TN m14 ((pre.foldl (leastS (partsF G)) ⟨number, order, []⟩).number.map (gval nI)), pt b3 (.cells #[.slice (some ⟨pb, po, none⟩) (partsF G).length pc] 176 (0, 0)), Sl (.slice (some ⟨pb, po, none⟩) (partsF G).length pc) 3 1 (partsF G).length ((partsF G).map nI), pt b5 (.cells #[ov] 176 (0, 0)), Sl ov 3 1 (pre.foldl (leastS (partsF G)) ⟨number, order, []⟩).order.length ((pre.foldl (leastS (partsF G)) ⟨number, order, []⟩).order.map nI), pt b7 (.cells #[.map (some m26)] 235 (0, 0)), Mp TS m26 ((pre.foldl (leastS (partsF G)) ⟨number, order, []⟩).own.map (gval nI)), fr w0])) (X := fun _ _ => fun _ => False) (L := pt b2 (.cells #[.slice ra2 rows.length rc2, .slice ea2 ends.length ec2] 136 (0, 0)) :: Sl (.slice ra2 rows.length rc2) 235 1 rows.length (ms2.map mI) :: Sl (.slice ea2 ends.length ec2) 4 1 ends.length (ends.map Value.bool) :: MK ds :: L) rfl cal190 (by decide) (fun x vs h hv => by have : vs = _ := hv; rw [this]; rfl) (it190 hl hG2 ha2 hrow hro) H ?_ ?_ ?_
    ·
      intro l pre x rest vs w L' L2 hxs hrec H
      obtain ⟨hh, _, hvs⟩ := H.fact_at 1 rfl
      have hvs : vs = [S x.1, nI x.2] := hvs
      subst hvs
      refine WC.seq ?_
      refine WC.region ?_
      refine l_rd rfl rfl (x_assign (by conv => lhs; whnf)) ?_
      refine WL.nil ?_
      refine WC.region ?_
      refine l_rd rfl rfl (x_assign (by conv => lhs; whnf)) ?_
      refine WL.nil ?_
      refine ⟨⟨[_, _], H⟩, fun w2 hw2 => ?_⟩
      clear hrec
      have H := Hd.arrT [_, _] [0] (by decide) rfl (hw2 [_, _] H)
      clear hw2
      obtain ⟨ov, -, H⟩ := PX.opn H
      obtain ⟨oa2, oc2, rfl⟩ := (H.sl 5 rfl).shape
      have hxm := hro.2 x (by rw [hxs]; simp)
      have hpi := hlt pre.length (by rw [hxs]; simp)
      rw [show row.take pre.length = pre by rw [hxs, List.take_left]] at hpi
      have hof2 := hpi.few
      obtain ⟨q, hq⟩ := lt_get (show x.2 < (partsF G).length by omega)
      have hqd : (partsF G).getD x.2 0 = q := by rw [List.getD_eq_getElem?_getD, hq]; rfl
      generalize hA : (pre.foldl (leastS (partsF G)) ⟨number, order, []⟩) = A9 at H hof2
      refine WC.block ?_
      refine WC.seq ?_
      cases hk2 : glook q A9.number with
      | none =>
        refine WC.draw mixed [] [[], [], [], [1, 2], [1, 2, 3], [0, 1, 2, 3, 4], [0, 1, 2, 3, 4, 5], [0, 1, 2, 3, 4, 5, 6], [0, 1, 2, 3, 4, 5, 6], [0, 1, 2, 3, 4, 5, 6, 7], [0, 1, 2, 3, 4, 5, 6, 7, 8, 9]] [0, 1, 2, 3, 4, 5, 6, 7, 8, 9, 10] (by kernel_rfl) ?_
        have H := H.drew
        refine k_rd rfl rfl (RS.of rfl rfl (x_load Tryz.underlying239 rfl h4 (H.cellL 0 rfl rfl))) ?_
        refine k_rd rfl rfl (RS.of rfl rfl (x_load Tryz.underlying176 rfl h3 (H.cellL 2 rfl rfl))) ?_
        refine k_rd rfl rfl (RS.of rfl rfl (x_move (by conv => lhs; whnf))) ?_
        refine k_rd rfl rfl (RS.of rfl rfl (x_indexAddr Tryz.underlying176 ty3 rfl rfl (by omega) (by omega))) ?_
        refine k_rd rfl rfl (RS.of rfl rfl (x_load Tryz.underlying3 rfl rfl (RdL.at_ (show RdL _ (.slice (some ⟨pb, po, none⟩) (partsF G).length pc) nI (partsF G) from H.sl 3 rfl) hq))) ?_
        refine k_rd rfl rfl (RS.of rfl rfl (x_lookM TN Tryz.underlying239 ty3 rfl rfl H 1 rfl (show _ = Value.tuple #[I 0, .bool false] by rw [alook_g, hk2]; rfl))) ?_
        refine k_rd rfl rfl (RS.of rfl rfl (x_move (by conv => lhs; whnf))) ?_
        refine k_rd rfl rfl (RS.of rfl rfl (x_extract rfl rfl)) ?_
        refine k_rd rfl rfl (RS.of rfl rfl (x_extract rfl rfl)) ?_
        refine k_rd rfl rfl (RS.of rfl rfl (x_assign (by conv => lhs; whnf))) ?_
        refine k_rd rfl rfl (RS.of rfl rfl (x_assign (by conv => lhs; whnf))) ?_
        show _
        refine WC.seq ?_
        refine WC.seq ?_
        refine WC.region ?_
        refine l_rd rfl rfl (x_move (by conv => lhs; whnf)) ?_
        refine l_rd rfl rfl (x_not rfl) ?_
        refine WL.nil ?_
        refine WC.cond1 rfl ?_
        refine WC.seq ?_
        refine WC.region ?_
        refine l_rd rfl rfl (x_load Tryz.underlying176 rfl h5 (H.cellL 4 rfl rfl)) ?_
        refine l_rd rfl rfl (x_lenSlice Tryz.underlying176 rfl rfl) ?_
        refine l_rd rfl rfl (x_assign (by conv => lhs; whnf)) ?_
        refine WL.nil ?_
        refine WC.seq ?_
        refine WC.draw mixed [6] [[], [], [], [1, 2], [1, 2, 3], [], [0, 1, 2, 3, 4, 5]] [0, 1, 2, 3, 4, 5, 6] (by kernel_rfl) ?_
        have H := H.drew
        refine k_rd rfl rfl (RS.of rfl rfl (x_load Tryz.underlying239 rfl h4 (H.cellL 0 rfl rfl))) ?_
        refine k_rd rfl rfl (RS.of rfl rfl (x_load Tryz.underlying176 rfl h3 (H.cellL 2 rfl rfl))) ?_
        refine k_rd rfl rfl (RS.of rfl rfl (x_move (by conv => lhs; whnf))) ?_
        refine k_rd rfl rfl (RS.of rfl rfl (x_indexAddr Tryz.underlying176 ty3 rfl rfl (by omega) (by omega))) ?_
        refine k_rd rfl rfl (RS.of rfl rfl (x_load Tryz.underlying3 rfl rfl (RdL.at_ (show RdL _ (.slice (some ⟨pb, po, none⟩) (partsF G).length pc) nI (partsF G) from H.sl 3 rfl) hq))) ?_
        refine k_rd rfl rfl (RS.of rfl rfl (x_move (by conv => lhs; whnf))) ?_
        refine k_no rfl rfl rfl (s_mapUpdate TN Tryz.underlying239 1 rfl rfl rfl (by conv => lhs; whnf) H (fun w H => ?_))
        rw [aset_g nI] at H
        refine ⟨⟨trivial, ⟨trivial, ⟨trivial, ⟨trivial, ⟨trivial, ⟨trivial, trivial⟩⟩⟩⟩⟩⟩, ?_⟩
        show _
        refine WC.region ?_
        refine l_rd rfl rfl (x_load Tryz.underlying176 rfl h5 (H.cellL 4 rfl rfl)) ?_
        refine l_rd rfl rfl (x_move (by conv => lhs; whnf)) ?_
        refine l_st rfl (s_build1 Tryz.underlying176 ty3 rfl (by conv => lhs; whnf) rfl H fun b56 w H => ?_)
        refine l_st rfl (s_append Tryz.underlying176 ty3 rfl (by decide) (by decide) rfl 6 rfl rfl rfl (H.sl 0 rfl) (by simp [Value.oneCell']) (by omega) H fun v57 w H => ?_)
        obtain ⟨a57, c57, rfl⟩ := (H.sl 6 rfl).shape
        refine l_no (s_st 5 rfl ty176 h5 (by conv => lhs; whnf) rfl rfl H fun w H => ?_)
        refine WL.nil ?_
        refine WC.region ?_
        refine l_rd rfl rfl (x_load Tryz.underlying235 rfl rfl (H.cellL 7 rfl rfl)) ?_
        refine l_rd rfl rfl (x_move (by conv => lhs; whnf)) ?_
        refine l_rd rfl rfl (x_move (by conv => lhs; whnf)) ?_
        refine l_no (s_mapUpdate TS Tryz.underlying235 8 rfl rfl rfl (by conv => lhs; whnf) H (fun w H => ?_))
        rw [aset_g nI] at H
        refine WL.nil ?_
        exact PX.mk (α := Value) (φ := fun _ => True) (A := (fun ov : Value => [pt b4 (.cells #[.map (some m14)] 239 (0, 0)), Mp TN m14 (((pre ++ [x]).foldl (leastS (partsF G)) ⟨number, order, []⟩).number.map (gval nI)), pt b3 (.cells #[.slice (some ⟨pb, po, none⟩) (partsF G).length pc] 176 (0, 0)), Sl (.slice (some ⟨pb, po, none⟩) (partsF G).length pc) 3 1 (partsF G).length ((partsF G).map nI), pt b5 (.cells #[ov] 176 (0, 0)), Sl ov 3 1 ((pre ++ [x]).foldl (leastS (partsF G)) ⟨number, order, []⟩).order.length (((pre ++ [x]).foldl (leastS (partsF G)) ⟨number, order, []⟩).order.map nI), pt b7 (.cells #[.map (some m26)] 235 (0, 0)), Mp TS m26 (((pre ++ [x]).foldl (leastS (partsF G)) ⟨number, order, []⟩).own.map (gval nI)), fr w0])) _ trivial (by rw [List.foldl_append, hA, List.foldl_cons, List.foldl_nil, leastS_new hqd hk2]; rw [List.length_append, List.map_append]; exact Hd.arrT [_, _, _, _, _, _, _, _, _, _] [1, 2, 3, 4, 5, 6, 7, 8, 9] (by decide) rfl H)
      | some j =>
        refine WC.draw mixed [] [[], [], [], [1, 2], [1, 2, 3], [0, 1, 2, 3, 4], [0, 1, 2, 3, 4, 5], [0, 1, 2, 3, 4, 5, 6], [0, 1, 2, 3, 4, 5, 6], [0, 1, 2, 3, 4, 5, 6, 7], [0, 1, 2, 3, 4, 5, 6, 7, 8, 9]] [0, 1, 2, 3, 4, 5, 6, 7, 8, 9, 10] (by kernel_rfl) ?_
        have H := H.drew
        refine k_rd rfl rfl (RS.of rfl rfl (x_load Tryz.underlying239 rfl h4 (H.cellL 0 rfl rfl))) ?_
        refine k_rd rfl rfl (RS.of rfl rfl (x_load Tryz.underlying176 rfl h3 (H.cellL 2 rfl rfl))) ?_
        refine k_rd rfl rfl (RS.of rfl rfl (x_move (by conv => lhs; whnf))) ?_
        refine k_rd rfl rfl (RS.of rfl rfl (x_indexAddr Tryz.underlying176 ty3 rfl rfl (by omega) (by omega))) ?_
        refine k_rd rfl rfl (RS.of rfl rfl (x_load Tryz.underlying3 rfl rfl (RdL.at_ (show RdL _ (.slice (some ⟨pb, po, none⟩) (partsF G).length pc) nI (partsF G) from H.sl 3 rfl) hq))) ?_
        refine k_rd rfl rfl (RS.of rfl rfl (x_lookM TN Tryz.underlying239 ty3 rfl rfl H 1 rfl (show _ = Value.tuple #[nI j, .bool true] by rw [alook_g, hk2]; rfl))) ?_
        refine k_rd rfl rfl (RS.of rfl rfl (x_move (by conv => lhs; whnf))) ?_
        refine k_rd rfl rfl (RS.of rfl rfl (x_extract rfl rfl)) ?_
        refine k_rd rfl rfl (RS.of rfl rfl (x_extract rfl rfl)) ?_
        refine k_rd rfl rfl (RS.of rfl rfl (x_assign (by conv => lhs; whnf))) ?_
        refine k_rd rfl rfl (RS.of rfl rfl (x_assign (by conv => lhs; whnf))) ?_
        show _
        refine WC.seq ?_
        refine WC.seq ?_
        refine WC.region ?_
        refine l_rd rfl rfl (x_move (by conv => lhs; whnf)) ?_
        refine l_rd rfl rfl (x_not rfl) ?_
        refine WL.nil ?_
        refine WC.cond0 rfl ?_
        refine WC.skip ?_
        refine WC.region ?_
        refine l_rd rfl rfl (x_load Tryz.underlying235 rfl rfl (H.cellL 6 rfl rfl)) ?_
        refine l_rd rfl rfl (x_move (by conv => lhs; whnf)) ?_
        refine l_rd rfl rfl (x_move (by conv => lhs; whnf)) ?_
        refine l_no (s_mapUpdate TS Tryz.underlying235 7 rfl rfl rfl (by conv => lhs; whnf) H (fun w H => ?_))
        rw [aset_g nI] at H
        refine WL.nil ?_
        exact PX.mk (α := Value) (φ := fun _ => True) (A := (fun ov : Value => [pt b4 (.cells #[.map (some m14)] 239 (0, 0)), Mp TN m14 (((pre ++ [x]).foldl (leastS (partsF G)) ⟨number, order, []⟩).number.map (gval nI)), pt b3 (.cells #[.slice (some ⟨pb, po, none⟩) (partsF G).length pc] 176 (0, 0)), Sl (.slice (some ⟨pb, po, none⟩) (partsF G).length pc) 3 1 (partsF G).length ((partsF G).map nI), pt b5 (.cells #[ov] 176 (0, 0)), Sl ov 3 1 ((pre ++ [x]).foldl (leastS (partsF G)) ⟨number, order, []⟩).order.length (((pre ++ [x]).foldl (leastS (partsF G)) ⟨number, order, []⟩).order.map nI), pt b7 (.cells #[.map (some m26)] 235 (0, 0)), Mp TS m26 (((pre ++ [x]).foldl (leastS (partsF G)) ⟨number, order, []⟩).own.map (gval nI)), fr w0])) _ trivial (by rw [List.foldl_append, hA, List.foldl_cons, List.foldl_nil, leastS_old hqd hk2]; exact Hd.arrT [_, _, _, _, _, _, _, _, _] [0, 1, 2, 3, 4, 5, 6, 7, 8] (by decide) rfl H)
    ·
      intro w m H
      obtain ⟨ov, -, H⟩ := PX.opn H
      have H := Hd.unstarAt [_, _, _, _, _, _, _, _, _, _] (Hd.unstarAt [_, _, _, _, _, _, _, _, _] H)
      have H := MK.cons (Hd.arrT [_, _, _, _, _, _, _, _, _, _, _, _, _, _, _, _, _] [12, 16, 0, 1, 2, 3, 4, 5, 6, 7, 8, 9, 10, 11, 13, 14, 15] (by decide) rfl H)
      obtain ⟨oa2, oc2, rfl⟩ := (H.sl 6 rfl).shape
      refine WC.seq ?_
      have hfin := hlt row.length (Nat.le_refl _)
      rw [List.take_length] at hfin
      obtain ⟨g3, gw, hle3, hlw, hW, H⟩ := Hd.freezeA (Hd.arrT [_, _, _, _, _, _, _, _, _, _, _, _, _, _, _, _] [8, 12, 0, 1, 2, 3, 4, 5, 6, 7, 9, 10, 11, 13, 14, 15] (by decide) rfl H)
      have hW2 : MpG TS m26 ((row.foldl (leastS (partsF G)) ⟨number, order, []⟩).own.map (gval nI)) g3 := (MpG.of hW).mono hlw
      have ha2 := hle3 _ _ ha2
      have hfw := hfin.few
      obtain ⟨tl, htl⟩ := hfin.2.2.2.2.1
      have hs1 : (row.foldl (leastS (partsF G)) ⟨number, order, []⟩).order[at_]? = some s0 := by rw [htl, List.getElem?_append_left (by omega)]; exact hs0
      have hol : at_ < (row.foldl (leastS (partsF G)) ⟨number, order, []⟩).order.length := (List.getElem?_eq_some_iff.1 hs1).1
      refine WC.region ?_
      refine l_rd rfl rfl (x_fieldAddr (k := 0) Tryz.underlying136 rfl rfl ty133 (by decide) h2) ?_
      refine l_rd rfl rfl (x_load Tryz.underlying133 rfl rfl (H.cellL 12 rfl rfl)) ?_
      refine l_rd rfl rfl (x_load Tryz.underlying235 rfl rfl (H.cellL 8 rfl rfl)) ?_
      refine l_st rfl (s_build1 Tryz.underlying133 ty235 rfl (by conv => lhs; whnf) rfl H fun b64 w H => ?_)
      refine l_st rfl (s_append Tryz.underlying133 ty235 rfl (by decide) (by decide) rfl 14 rfl rfl rfl (H.sl 0 rfl) (by simp [Value.oneCell']) (by omega) H fun v65 w H => ?_)
      obtain ⟨a65, c65, rfl⟩ := (H.sl 14 rfl).shape
      refine l_rd rfl rfl (x_fieldAddr (k := 0) Tryz.underlying136 rfl rfl ty133 (by decide) h2) ?_
      refine l_no (s_st 13 rfl ty133 rfl (by conv => lhs; whnf) rfl rfl H fun w H => ?_)
      refine WL.nil ?_
      obtain ⟨ob2, oo2, rfl, -⟩ := (show RdL w (.slice oa2 _ oc2) nI (row.foldl (leastS (partsF G)) ⟨number, order, []⟩).order from H.sl 8 rfl).el hs1
      obtain ⟨ms, hF, -, -⟩ := hG2.mono hle3
      obtain ⟨eb, eo, rfl, -⟩ := (hF.at H 1 rfl).2.el he
      refine WC.draw mixed [12, 13, 15] [[], [0], [], [2], [2, 3], [2, 3, 4], [], [], [6, 7], [6, 7, 8], [2, 3, 4, 5, 6, 7, 8, 9], [2, 3, 4, 5, 6, 7, 8, 9, 10], [2, 3, 4, 5, 6, 7, 8, 9, 10, 11], [0, 1, 2, 3, 4, 5, 6, 7, 8, 9, 10, 11, 12], [0, 1, 2, 3, 4, 5, 6, 7, 8, 9, 10, 11, 12, 13], [0, 1, 2, 3, 4, 5, 6, 7, 8, 9, 10, 11, 12, 13, 14]] [0, 1, 2, 3, 4, 5, 6, 7, 8, 9, 10, 11, 12, 13, 14, 15] (by kernel_rfl) ?_
      have H := H.drew
      refine k_rd rfl rfl (RS.of rfl rfl (x_fieldAddr (k := 1) Tryz.underlying136 rfl rfl ty134 (by decide) h2)) ?_
      refine k_rd rfl rfl (RS.of rfl rfl (x_load Tryz.underlying134 rfl rfl (H.cellL 13 rfl rfl))) ?_
      refine k_rd rfl rfl (RS.of rfl rfl (x_move h0)) ?_
      refine k_rd rfl rfl (RS.of rfl rfl (x_nilCheck rfl)) ?_
      refine k_rd rfl rfl (RS.of rfl rfl (x_fieldAddr (k := 1) Tryz.underlying136 rfl rfl ty134 (by decide) rfl)) ?_
      refine k_rd rfl rfl (RS.of rfl rfl (x_load Tryz.underlying134 rfl rfl (cell_ofL ((H.fz 1 rfl) _ _ ha2) rfl))) ?_
      refine k_rd rfl rfl (RS.of rfl rfl (x_load Tryz.underlying176 rfl h5 (H.cellL 7 rfl rfl))) ?_
      refine k_rd rfl rfl (RS.of rfl rfl (x_move h6)) ?_
      refine k_rd rfl rfl (RS.of rfl rfl (x_indexAddr Tryz.underlying176 ty3 rfl rfl (by omega) (by omega))) ?_
      refine k_rd rfl rfl (RS.of rfl rfl (x_load Tryz.underlying3 rfl rfl (RdL.at_ (show RdL _ (.slice (some ⟨ob2, oo2, none⟩) _ oc2) nI (row.foldl (leastS (partsF G)) ⟨number, order, []⟩).order from H.sl 8 rfl) hs1))) ?_
      refine k_rd rfl rfl (RS.of rfl rfl (x_indexAddr Tryz.underlying134 ty4 rfl rfl (by omega) (by omega))) ?_
      refine k_rd rfl rfl (RS.of rfl rfl (x_load Tryz.underlying4 rfl rfl ((hF.at H 1 rfl).2.at_ he))) ?_
      refine k_st rfl rfl rfl (s_build1 Tryz.underlying134 ty4 rfl (by conv => lhs; whnf) rfl H fun b79 w H => ⟨⟨trivial, ⟨trivial, ⟨trivial, ⟨trivial, ⟨trivial, ⟨trivial, ⟨trivial, ⟨trivial, ⟨trivial, ⟨trivial, ⟨RS.of rfl rfl (x_load Tryz.underlying134 rfl rfl (H.cellL 14 rfl rfl)), ⟨RS.of rfl rfl (x_fieldAddr (k := 1) Tryz.underlying136 rfl rfl ty134 (by decide) h2), trivial⟩⟩⟩⟩⟩⟩⟩⟩⟩⟩⟩⟩, ?_⟩)
      refine k_st rfl rfl rfl (s_append Tryz.underlying134 ty4 rfl (by decide) (by decide) rfl 16 rfl rfl rfl (H.sl 0 rfl) (by simp [Value.oneCell']) (by omega) H fun v80 w H => ⟨⟨trivial, ⟨trivial, ⟨trivial, ⟨trivial, ⟨trivial, ⟨trivial, ⟨trivial, ⟨trivial, ⟨trivial, ⟨trivial, ⟨trivial, ⟨trivial, trivial⟩⟩⟩⟩⟩⟩⟩⟩⟩⟩⟩⟩, ?_⟩)
      obtain ⟨a80, c80, rfl⟩ := (H.sl 16 rfl).shape
      refine k_rd rfl rfl (RS.of rfl rfl (x_fieldAddr (k := 1) Tryz.underlying136 rfl rfl ty134 (by decide) h2)) ?_
      refine k_no rfl rfl rfl (s_st 14 rfl ty134 rfl (by conv => lhs; whnf) rfl rfl H fun w H => ⟨⟨trivial, ⟨trivial, ⟨trivial, ⟨trivial, ⟨trivial, ⟨trivial, ⟨trivial, ⟨trivial, ⟨trivial, ⟨trivial, ⟨trivial, ⟨trivial, ⟨trivial, trivial⟩⟩⟩⟩⟩⟩⟩⟩⟩⟩⟩⟩⟩, ?_⟩)
      show _
      refine WC.region ?_
      refine l_rd rfl rfl (x_move h6) ?_
      refine l_rd rfl rfl (x_add rfl rfl (by omega) (by omega)) ?_
      refine l_rd rfl rfl (x_assign (by conv => lhs; whnf)) ?_
      refine WL.nil ?_
      refine WC.again (⟨at_ + 1, _, _, _, _, _, _, _, _, g3, hS.next hl.2.1 hok hs0 hrow he hle3 hW2, rfl, h0, h2, h3, h4, h5, by rw [List.length_append, List.map_append, List.length_append, List.map_append]; exact Hd.arrT [_, _, _, _, _, _, _, _, _, _, _, _, _, _, _, _, _] [14, 15, 16, 6, 7, 4, 5, 8, 9, 3, 2, 11] (by decide) rfl H⟩) (by show _ - _ < _ - _; rw [h6o]; show G.rows.length + 1 - ((at_ : Int) + 1).toNat < G.rows.length + 1 - (at_ : Int).toNat; omega)
    ·
      intro w m c pre x rest hxs H
      obtain ⟨hh, _, hF⟩ := H.fact_at 0 rfl
      exact hF.elim
  ·
    refine WL.nil ?_
    refine WC.cond0 rfl ?_
    refine WC.exit ?_
    refine WC.seq ?_
    refine WC.region ?_
    refine l_rd rfl rfl (x_loadF (vs := [_, _]) Tryz.underlying136 rfl ty136 h2 rfl (H.cellsL 0 rfl rfl)) ?_
    refine l_no (s_stA 0 rfl ty136 h2 (by conv => lhs; whnf) rfl rfl rfl H fun w H => ?_)
    refine WL.nil ?_
    refine WC.ret ?_
    refine atRet ?_
    refine RetM.marks _ (Hd.arrT [_, _, _, _, _, _, _, _, _, _, _, _] [9, 0, 1, 2, 3, 4, 5, 6, 7, 8, 10, 11] (by decide) rfl H) (fun w H => ?_)
    refine RetM.cell1A (vs := [_, _]) rfl h2 Tryz.underlying136 rfl ty136 rfl (H.cellsL 0 rfl rfl) ?_
    have H := Hd.arrT [_, _, _, _, _, _, _, _, _, _, _] [1, 9, 2, 10] (by decide) rfl H
    obtain ⟨g3, l1, hR, H⟩ := Hd.freezeSl H
    have H := Hd.swp H
    obtain ⟨g4, l2, hE, H⟩ := Hd.freezeSl H
    exact ⟨_, _, g4, rfl, hS.sub.trans (l1.trans l2), hS.graph (by omega) (l1.trans l2) (hR.mono l2) hE, H⟩
end Go.Proofs.YteibnmkikdbndaaGreatDoor
