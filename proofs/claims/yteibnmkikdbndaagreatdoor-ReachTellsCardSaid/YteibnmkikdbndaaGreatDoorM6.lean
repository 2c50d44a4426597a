/-
  What functions of this seat do: contracts, proved by walks, and the plain laws that they need; each with the conditions that it names.
-/
import Derived.Test.YteibnmkikdbndaaGreatDoorM5
set_option linter.unusedVariables false
set_option linter.unusedSimpArgs false
namespace Go.Proofs.YteibnmkikdbndaaGreatDoor
open Go Go.RowKit KE Go.Proofs
theorem ty253 : Ty Tryz.prog 253 (.agg #[(.string ⟨#[]⟩), (.int .i64 0), (.string ⟨#[]⟩), (.int .i64 0)]) 4 48 := Ty.of (by kernel_rfl)
theorem cal44 : Cal Tryz.prog 44 := ⟨_, Tryz.func44, rfl, by decide⟩
theorem cal150 : Cal Tryz.prog 150 := ⟨_, Tryz.func150, rfl, by decide⟩
abbrev eRs : Rs → List Value → Hp := fun x vs => fun _ => vs = [.agg (rsC x).toArray]
/-- what has been told of the seeds: all of the states below k -/
def PreI (A : Gr) (n : Nn) (e : Ed) (K k : Nat) (pre : List Rs) : Prop := (∀ y ∈ pre, SeedP A n e y) ∧ (∀ s, stepA A 0 e.lab = some s → (⟨e.dst, s, e.src, e.time⟩ : Rs) ∈ pre) ∧
  (∀ st, st < k → ∀ r τ s', nodT n r e.src st = some τ → stepA A st e.lab = some s' → (⟨e.dst, s', r, min τ e.time⟩ : Rs) ∈ pre) ∧ pre.length ≤ 1 + k * K
theorem PreI.zero_n {A : Gr} {n : Nn} {e : Ed} {K : Nat} (h : none = stepA A 0 e.lab) : PreI A n e K 0 [] := ⟨fun y h => (by cases h), fun s hs => (by rw [← h] at hs; cases hs), fun st h => absurd h (Nat.not_lt_zero _), Nat.zero_le _⟩
theorem PreI.zero_y {A : Gr} {n : Nn} {e : Ed} {K s0 : Nat} (h : some s0 = stepA A 0 e.lab) : PreI A n e K 0 [⟨e.dst, s0, e.src, e.time⟩] := ⟨fun y hy => (by have := List.mem_singleton.1 hy; subst this; exact ⟨rfl, .inl ⟨h.symm, rfl, rfl⟩⟩), fun s hs => (by rw [← h] at hs; cases hs; exact List.mem_singleton_self _), fun st h => absurd h (Nat.not_lt_zero _), by simp⟩
theorem PreI.skip {A : Gr} {n : Nn} {e : Ed} {K k : Nat} {pre : List Rs} (h : PreI A n e K k pre) (hs : none = stepA A k e.lab) : PreI A n e K (k + 1) pre := by
  refine ⟨h.1, h.2.1, fun st hst r τ s' a b => ?_, by have := h.2.2.2; rw [Nat.succ_mul]; omega⟩
  rcases Nat.lt_succ_iff_lt_or_eq.1 hst with h1 | rfl
  · exact h.2.2.1 st h1 r τ s' a b
  · rw [← hs] at b; cases b
theorem PreI.fin {A : Gr} {n : Nn} {e : Ed} {K k : Nat} {pre : List Rs} (h : PreI A n e K k pre) (hk : k = A.rows.length) : (∀ x ∈ pre, SeedP A n e x) ∧ (∀ x, SeedP A n e x → x ∈ pre) ∧ pre.length ≤ 1 + A.rows.length * K := by
  subst hk
  refine ⟨h.1, fun x hx => ?_, h.2.2.2⟩
  obtain ⟨v, s, r, t⟩ := x
  obtain ⟨e1, ⟨e2, e3, e4⟩ | ⟨st, τ, h1, h2, h3, h4⟩⟩ := hx
  · simp only at e1 e2 e3 e4; subst e1 e3 e4; exact h.2.1 s e2
  · simp only at e1 h2 h3 h4; subst e1 h4; exact h.2.2.1 st h1 r τ s h2 h3
/-- .. and of some of the roots at state k -/
structure PreJ (A : Gr) (n : Nn) (e : Ed) (K k : Nat) (row : List (ByteArray × Int)) (rest : List (ByteArray × Value)) (s1 : Nat) (pre : List Rs) : Prop where
  seed : ∀ y ∈ pre, SeedP A n e y
  base : ∀ s, stepA A 0 e.lab = some s → (⟨e.dst, s, e.src, e.time⟩ : Rs) ∈ pre
  low : ∀ st, st < k → ∀ r τ s', nodT n r e.src st = some τ → stepA A st e.lab = some s' → (⟨e.dst, s', r, min τ e.time⟩ : Rs) ∈ pre
  here : ∀ q ∈ row, gval I q ∈ rest ∨ (⟨e.dst, s1, q.1, min q.2 e.time⟩ : Rs) ∈ pre
  sub : ∀ p ∈ rest, p ∈ row.map (gval I)
  len : pre.length + rest.length ≤ 1 + k * K + row.length
  rlen : row.length ≤ K
  klt : k < A.rows.length
theorem nodT_row {n : Nn} {r v : ByteArray} {k : Nat} {og : Option (Nat × List (ByteArray × Int))} {τ : Int} (hg : og = glook (v, k) n) (hn : ((rowO og).map (·.1)).Nodup) (h : (r, τ) ∈ rowO og) : nodT n r v k = some τ := by
  unfold nodT look2
  rw [← hg]
  cases og with
  | none => cases h
  | some q => exact mem_glook hn h
theorem row_nodT {n : Nn} {r v : ByteArray} {k : Nat} {og : Option (Nat × List (ByteArray × Int))} {τ : Int} (hg : og = glook (v, k) n) (h : nodT n r v k = some τ) : (r, τ) ∈ rowO og := by
  unfold nodT look2 at h
  rw [← hg] at h
  cases og with
  | none => cases h
  | some q => exact glook_mem h
theorem PreJ.start {A : Gr} {n : Nn} {e : Ed} {K k s1 : Nat} {row : List (ByteArray × Int)} {pre : List Rs} (h : PreI A n e K k pre) (hk : row.length ≤ K) (hlt : k < A.rows.length := by omega) : PreJ A n e K k row (row.map (gval I)) s1 pre :=
  ⟨h.1, h.2.1, h.2.2.1, fun q hq => .inl (List.mem_map_of_mem hq), fun p hp => hp, by have := h.2.2.2; rw [List.length_map]; omega, hk, hlt⟩
theorem PreJ.okX {A : Gr} {n : Nn} {e : Ed} {K k s1 : Nat} {og : Option (Nat × List (ByteArray × Int))} {rest : List (ByteArray × Value)} {pre : List Rs} {r9 : ByteArray} {τ9 : Int} (h : PreJ A n e K k (rowO og) rest s1 pre) (ho : some s1 = stepA A k e.lab) (hg : og = glook (e.src, k) n) (hn : ((rowO og).map (·.1)).Nodup) (hm : (r9, τ9) ∈ rowO og) :
    SeedP A n e ⟨e.dst, s1, r9, min τ9 e.time⟩ ∧ pre.length ≤ 1 + A.rows.length * K := by
  refine ⟨⟨rfl, .inr ⟨k, τ9, h.klt, nodT_row hg hn hm, ho.symm, rfl⟩⟩, ?_⟩
  have := h.len
  have := h.rlen
  have h1 := h.klt
  have : (k + 1) * K ≤ A.rows.length * K := Nat.mul_le_mul_right K h1
  rw [Nat.succ_mul] at this
  omega
theorem PreJ.next {A : Gr} {n : Nn} {e : Ed} {K k s1 : Nat} {og : Option (Nat × List (ByteArray × Int))} {A9 B9 : List (ByteArray × Value)} {pre : List Rs} {r9 : ByteArray} {τ9 : Int} (h : PreJ A n e K k (rowO og) (A9 ++ gval I (r9, τ9) :: B9) s1 pre) (ho : some s1 = stepA A k e.lab) (hg : og = glook (e.src, k) n) (hn : ((rowO og).map (·.1)).Nodup) :
    PreJ A n e K k (rowO og) (A9 ++ B9) s1 (pre ++ [⟨e.dst, s1, r9, min τ9 e.time⟩]) := by
  obtain ⟨⟨r8, τ8⟩, hm, he⟩ := List.mem_map.1 (h.sub (gval I (r9, τ9)) (by simp))
  simp only [gval, Prod.mk.injEq, Value.int.injEq, true_and] at he
  obtain ⟨rfl, rfl⟩ := he
  refine ⟨fun y hy => ?_, fun s a => List.mem_append_left _ (h.base s a), fun st hst r τ s' a b => List.mem_append_left _ (h.low st hst r τ s' a b), fun q hq => ?_, fun p hp => h.sub p ?_, ?_, h.rlen, h.klt⟩
  · rcases List.mem_append.1 hy with hy | hy
    · exact h.seed y hy
    · have := List.mem_singleton.1 hy; subst this; exact (h.okX ho hg hn hm).1
  · rcases h.here q hq with h1 | h1
    · rcases List.mem_append.1 h1 with h1 | h1
      · exact .inl (List.mem_append_left _ h1)
      · rcases List.mem_cons.1 h1 with h1 | h1
        · obtain ⟨q1, q2⟩ := q
          simp only [gval, Prod.mk.injEq, Value.int.injEq, true_and] at h1
          obtain ⟨rfl, rfl⟩ := h1
          exact .inr (List.mem_append_right _ (List.mem_singleton_self _))
        · exact .inl (List.mem_append_right _ h1)
    · exact .inr (List.mem_append_left _ h1)
  · rcases List.mem_append.1 hp with hp | hp
    · exact List.mem_append_left _ hp
    · exact List.mem_append_right _ (List.mem_cons_of_mem _ hp)
  · have := h.len
    simp only [List.length_append, List.length_cons, List.length_nil] at this ⊢
    omega
theorem PreJ.done {A : Gr} {n : Nn} {e : Ed} {K k s1 : Nat} {og : Option (Nat × List (ByteArray × Int))} {pre : List Rs} (h : PreJ A n e K k (rowO og) [] s1 pre) (ho : some s1 = stepA A k e.lab) (hg : og = glook (e.src, k) n) (hn : ((rowO og).map (·.1)).Nodup) : PreI A n e K (k + 1) pre := by
  refine ⟨h.seed, h.base, fun st hst r τ s' a b => ?_, ?_⟩
  · rcases Nat.lt_succ_iff_lt_or_eq.1 hst with h1 | rfl
    · exact h.low st h1 r τ s' a b
    · rw [← ho] at b; cases b
      rcases h.here (r, τ) (row_nodT hg a) with h1 | h1
      · cases h1
      · exact h1
  · have := h.len; have := h.rlen
    simp only [List.length_nil] at *
    rw [Nat.succ_mul]; omega
theorem MRo.rest {P : Program} {kt : TypeId} {κ : Type} [DecidableEq κ] {T : KT P kt κ} {s : Sy} {w : World} {L : List Hp} {J : Hp} {m : Option Nat} {b : Nat} {l rest : List (κ × Value)} {cur : Option (κ × Value)} (H : Hd s w (J :: MRo T m b l cur rest :: L)) : Hd s w (J :: MRo T m b l none rest :: L) := by
  cases m with
  | none => exact Hd.swp (Hd.weak (Hd.swp H) fun h ⟨⟨h1, h2, _⟩, h4⟩ => ⟨⟨h1, h2, rfl⟩, h4⟩)
  | some m => exact Hd.swp (Hd.weak (Hd.swp H) fun h ⟨q, ⟨h1, h2, h3, _⟩, h5⟩ => ⟨q, ⟨h1, h2, h3, fun p hp => by cases hp⟩, h5⟩)
theorem it199 {s : Sy} [NoEx s] {g : KE.Sub} {f a mn ml b1 b2 K : Nat} {n : Nn} {lk : Ln} {cut last : Int} {A : Gr} {e : Ed} (hE : okA A) (hA : AuG g a A) (hok : okN2 n) (hK : ∀ q row, glook q n = some row → row.2.length ≤ K) : ITa Tryz.prog s 199 [.pointer (some ⟨b1, 0, none⟩), .pointer (some ⟨b2, 0, none⟩)] eRs (fun pre x => SeedP A n e x ∧ pre.length ≤ 1 + A.rows.length * K) (fun xs => (∀ x ∈ xs, SeedP A n e x) ∧ (∀ x, SeedP A n e x → x ∈ xs) ∧ xs.length ≤ 1 + A.rows.length * K) (KE.sep [pt b1 (.cells #[.pointer (some ⟨f, 0, none⟩)] 74 (0, 0)), pt b2 (.cells (edC e).toArray 35 (0, 0)), pt f (.cells (foC a mn ml cut last).toArray 143 (0, 0)), Mp TSp mn (n.map (gval pI)), IM TS I n, Mp TS ml (lk.map (gval pI)), IM TLk I lk, fz g]) (fun _ => KE.sep [pt b1 (.cells #[.pointer (some ⟨f, 0, none⟩)] 74 (0, 0)), pt b2 (.cells (edC e).toArray 35 (0, 0)), pt f (.cells (foC a mn ml cut last).toArray 143 (0, 0)), Mp TSp mn (n.map (gval pI)), IM TS I n, Mp TS ml (lk.map (gval pI)), IM TLk I lk, fz g]) := by
  intro lb J X w L hy H
  have H := Hd.unsep (A := [pt b1 (.cells #[.pointer (some ⟨f, 0, none⟩)] 74 (0, 0)), pt b2 (.cells (edC e).toArray 35 (0, 0)), pt f (.cells (foC a mn ml cut last).toArray 143 (0, 0)), Mp TSp mn (n.map (gval pI)), IM TS I n, Mp TS ml (lk.map (gval pI)), IM TLk I lk, fz g]) (Hd.swp H)
  refine CC.of (N := 79) Tryz.func199 rfl rfl rfl ?_
  refine WC.seq ?_
  refine WC.seq ?_
  obtain ⟨o0, ho0⟩ : ∃ o0, o0 = stepA A 0 e.lab := ⟨_, rfl⟩
  rcases o0 with _ | s0
  ·
    refine WC.region ?_
    refine l_rd rfl rfl (x_load Tryz.underlying74 rfl rfl (H.cellL 0 rfl rfl)) ?_
    refine l_rd rfl rfl (x_fieldAddr (k := 2) Tryz.underlying35 rfl rfl ty9 (by decide) rfl) ?_
    refine l_rd rfl rfl (x_load Tryz.underlying9 rfl rfl (H.cellL 1 rfl rfl)) ?_
    refine l_rd rfl rfl (x_fieldAddr (k := 1) Tryz.underlying35 rfl rfl ty9 (by decide) rfl) ?_
    refine l_rd rfl rfl (x_load Tryz.underlying9 rfl rfl (H.cellL 1 rfl rfl)) ?_
    refine l_st rfl (s_callL cal150 (c150 (sn := 0) _ (FoA.of hA H 2 rfl 7 rfl)) ?_)
    rintro r w ⟨hr1, e1⟩
    have H := H.ext e1
    obtain rfl : r = .tuple #[.agg #[S e.dst, I 0], .bool false] := hr1.trans (by rw [← ho0]; rfl)
    refine l_rd rfl rfl (x_move (by conv => lhs; whnf)) ?_
    refine l_rd rfl rfl (x_extract rfl rfl) ?_
    refine l_rd rfl rfl (x_extract rfl rfl) ?_
    refine l_st rfl (s_alloc ty151 H fun b4 w H => ?_)
    refine l_no (s_stA 0 rfl ty151 rfl (by conv => lhs; whnf) rfl rfl rfl H fun w H => ?_)
    refine l_rd rfl rfl (x_assign (by conv => lhs; whnf)) ?_
    refine WL.nil ?_
    refine WC.seq ?_
    refine WC.region ?_
    refine l_rd rfl rfl (x_move (by conv => lhs; whnf)) ?_
    refine l_rd rfl rfl (x_move (by conv => lhs; whnf)) ?_
    refine l_gn (wantN rfl rfl rfl) rfl ?_
    refine l_gn (wantN rfl rfl rfl) rfl ?_
    refine l_gn (wantN rfl rfl rfl) rfl ?_
    refine l_gn (wantN rfl rfl rfl) rfl ?_
    refine l_gn (wantN rfl rfl rfl) rfl ?_
    refine l_gn (wantN rfl rfl rfl) rfl ?_
    refine l_gn (wantN rfl rfl rfl) rfl ?_
    refine l_gn (wantN rfl rfl rfl) rfl ?_
    refine l_gn (wantN rfl rfl rfl) rfl ?_
    refine l_rd rfl rfl (x_pick0 rfl ev_c) ?_
    refine WL.nil ?_
    refine WC.cond0 rfl ?_
    refine WC.skip ?_
    refine WC.seq ?_
    refine WC.region ?_
    refine l_rd rfl rfl (x_load Tryz.underlying74 rfl rfl (H.cellL 1 rfl rfl)) ?_
    refine l_rd rfl rfl (x_nilCheck rfl) ?_
    refine l_rd rfl rfl (x_fieldAddr (k := 0) Tryz.underlying143 rfl rfl ty71 (by decide) rfl) ?_
    refine l_rd rfl rfl (x_load Tryz.underlying71 rfl rfl (H.cellL 3 rfl rfl)) ?_
    refine l_st rfl (s_callL cal51 (c51 _ (hA.rd (H.fz 8 rfl))) ?_)
    rintro _ w ⟨rfl, e1⟩
    have H := H.ext e1
    refine l_rd rfl rfl (x_move ev_c) ?_
    refine WL.nil ?_
    refine WC.block ?_
    refine WC.loop (fun ρ ds w => ∃ (k : Nat) (pre : List Rs), k ≤ A.rows.length ∧ PreI A n e K k pre ∧ ρ 37 = I k ∧ ρ 36 = I A.rows.length ∧ ρ 0 = .func (.yield lb) #[] #[] ∧ ρ 1 = .pointer (some ⟨b1, 0, none⟩) ∧ ρ 2 = .pointer (some ⟨b2, 0, none⟩) ∧ ds = [] ∧ Hd s w (J pre :: pt b1 (.cells #[.pointer (some ⟨f, 0, none⟩)] 74 (0, 0)) :: pt b2 (.cells (edC e).toArray 35 (0, 0)) :: pt f (.cells (foC a mn ml cut last).toArray 143 (0, 0)) :: Mp TSp mn (n.map (gval pI)) :: IM TS I n :: Mp TS ml (lk.map (gval pI)) :: IM TLk I lk :: fz g :: L)) (fun ρ w => A.rows.length - (match ρ 37 with | .int _ k => k.toNat | _ => 0)) (⟨0, [], Nat.zero_le _, PreI.zero_n ho0, rfl, rfl, rfl, rfl, rfl, rfl, Hd.arrT [_, _, _, _, _, _, _, _, _, _] [9, 1, 2, 3, 4, 5, 6, 7, 8] (by decide) rfl H⟩) ?_
    repeat clear H
    rintro ρ ds w ⟨k, pre, hk, hP, h37, h36, h0, h1, h2, rfl, H⟩
    have h37o := h37
    have hE3 := hE.2.2
    refine WC.seq ?_
    refine WC.region ?_
    refine l_rdD rfl rfl (x_lss h37 h36) (fun h38 => ?_) (fun h38 => ?_)
    ·
      refine WL.nil ?_
      refine WC.seq ?_
      refine WC.cond1 rfl ?_
      refine WC.skip ?_
      refine WC.seq ?_
      refine WC.block ?_
      refine WC.seq ?_
      refine WC.region ?_
      refine l_rd rfl rfl (x_move h37) ?_
      refine l_rd rfl rfl (x_assign (by conv => lhs; whnf)) ?_
      refine WL.nil ?_
      refine WC.seq ?_
      obtain ⟨o1, ho1⟩ : ∃ o1, o1 = stepA A k e.lab := ⟨_, rfl⟩
      rcases o1 with _ | s1
      ·
        refine WC.region ?_
        refine l_rd rfl rfl (x_load Tryz.underlying74 rfl h1 (H.cellL 1 rfl rfl)) ?_
        refine l_rd rfl rfl (x_move (by conv => lhs; whnf)) ?_
        refine l_rd rfl rfl (x_fieldAddr (k := 2) Tryz.underlying35 rfl rfl ty9 (by decide) h2) ?_
        refine l_rd rfl rfl (x_load Tryz.underlying9 rfl rfl (H.cellL 2 rfl rfl)) ?_
        refine l_rd rfl rfl (x_fieldAddr (k := 1) Tryz.underlying35 rfl rfl ty9 (by decide) h2) ?_
        refine l_rd rfl rfl (x_load Tryz.underlying9 rfl rfl (H.cellL 2 rfl rfl)) ?_
        refine l_st rfl (s_callL cal150 (c150 (sn := k) _ (FoA.of hA H 3 rfl 8 rfl)) ?_)
        rintro r w ⟨hr1, e1⟩
        have H := H.ext e1
        obtain rfl : r = .tuple #[.agg #[S e.dst, I 0], .bool false] := hr1.trans (by rw [← ho1]; rfl)
        refine l_rd rfl rfl (x_move (by conv => lhs; whnf)) ?_
        refine l_rd rfl rfl (x_extract rfl rfl) ?_
        refine l_rd rfl rfl (x_extract rfl rfl) ?_
        refine l_st rfl (s_alloc ty151 H fun b7 w H => ?_)
        refine l_no (s_stA 0 rfl ty151 rfl (by conv => lhs; whnf) rfl rfl rfl H fun w H => ?_)
        refine l_rd rfl rfl (x_assign (by conv => lhs; whnf)) ?_
        refine WL.nil ?_
        refine WC.seq ?_
        refine WC.seq ?_
        refine WC.region ?_
        refine l_rd rfl rfl (x_move (by conv => lhs; whnf)) ?_
        refine l_rd rfl rfl (x_not rfl) ?_
        refine WL.nil ?_
        refine WC.cond1 rfl ?_
        refine WC.exit ?_
        refine WC.region ?_
        refine l_rd rfl rfl (x_add h37 rfl (by omega) (by omega)) ?_
        refine l_rd rfl rfl (x_move (by conv => lhs; whnf)) ?_
        refine WL.nil ?_
        refine WC.again (⟨k + 1, pre, by omega, hP.skip ho1, rfl, h36, h0, h1, h2, rfl, Hd.arrT [_, _, _, _, _, _, _, _, _, _] [1, 2, 3, 4, 5, 6, 7, 8, 9] (by decide) rfl H⟩) (by show _ - _ < _ - _; rw [h37o]; show A.rows.length - ((k : Int) + 1).toNat < A.rows.length - (k : Int).toNat; omega)
      ·
        refine WC.region ?_
        refine l_rd rfl rfl (x_load Tryz.underlying74 rfl h1 (H.cellL 1 rfl rfl)) ?_
        refine l_rd rfl rfl (x_move (by conv => lhs; whnf)) ?_
        refine l_rd rfl rfl (x_fieldAddr (k := 2) Tryz.underlying35 rfl rfl ty9 (by decide) h2) ?_
        refine l_rd rfl rfl (x_load Tryz.underlying9 rfl rfl (H.cellL 2 rfl rfl)) ?_
        refine l_rd rfl rfl (x_fieldAddr (k := 1) Tryz.underlying35 rfl rfl ty9 (by decide) h2) ?_
        refine l_rd rfl rfl (x_load Tryz.underlying9 rfl rfl (H.cellL 2 rfl rfl)) ?_
        refine l_st rfl (s_callL cal150 (c150 (sn := k) _ (FoA.of hA H 3 rfl 8 rfl)) ?_)
        rintro r w ⟨hr1, e1⟩
        have H := H.ext e1
        obtain rfl : r = .tuple #[.agg #[S e.dst, nI s1], .bool true] := hr1.trans (by rw [← ho1]; rfl)
        refine l_rd rfl rfl (x_move (by conv => lhs; whnf)) ?_
        refine l_rd rfl rfl (x_extract rfl rfl) ?_
        refine l_rd rfl rfl (x_extract rfl rfl) ?_
        refine l_st rfl (s_alloc ty151 H fun b7 w H => ?_)
        refine l_no (s_stA 0 rfl ty151 rfl (by conv => lhs; whnf) rfl rfl rfl H fun w H => ?_)
        refine l_rd rfl rfl (x_assign (by conv => lhs; whnf)) ?_
        refine WL.nil ?_
        refine WC.seq ?_
        refine WC.seq ?_
        refine WC.region ?_
        refine l_rd rfl rfl (x_move (by conv => lhs; whnf)) ?_
        refine l_rd rfl rfl (x_not rfl) ?_
        refine WL.nil ?_
        refine WC.cond0 rfl ?_
        refine WC.skip ?_
        refine WC.seq ?_
        obtain ⟨og, hg⟩ : ∃ og, og = glook (e.src, k) n := ⟨_, rfl⟩
        have hlenK : (rowO og).length ≤ K := by
          cases og with
          | none => exact Nat.zero_le _
          | some q => exact hK _ q hg.symm
        have hnr : ((rowO og).map (·.1)).Nodup := by
          cases og with
          | none => exact List.nodup_nil
          | some q => exact hok.row hg.symm
        refine WC.draw mixed [9, 10] [[], [0], [0, 1], [0, 1, 2], [], [4], [], [4, 5, 6], [0, 1, 2, 3, 4, 5, 6, 7], [0, 1, 2, 3, 4, 5, 6, 7, 8], [0, 1, 2, 3, 4, 5, 6, 7, 8, 9]] [0, 1, 2, 3, 4, 5, 6, 7, 8, 9, 10] (by kernel_rfl) ?_
        have H := H.drew
        refine k_rd rfl rfl (RS.of rfl rfl (x_load Tryz.underlying74 rfl h1 (H.cellL 2 rfl rfl))) ?_
        refine k_rd rfl rfl (RS.of rfl rfl (x_nilCheck rfl)) ?_
        refine k_rd rfl rfl (RS.of rfl rfl (x_fieldAddr (k := 1) Tryz.underlying143 rfl rfl ty140 (by decide) rfl)) ?_
        refine k_rd rfl rfl (RS.of rfl rfl (x_load Tryz.underlying140 rfl rfl (H.cellL 4 rfl rfl))) ?_
        refine k_rd rfl rfl (RS.of rfl rfl (x_fieldAddr (k := 0) Tryz.underlying35 rfl rfl ty9 (by decide) h2)) ?_
        refine k_rd rfl rfl (RS.of rfl rfl (x_load Tryz.underlying9 rfl rfl (H.cellL 3 rfl rfl))) ?_
        refine k_rd rfl rfl (RS.of rfl rfl (x_move (by conv => lhs; whnf))) ?_
        refine k_rd rfl rfl (RS.of rfl rfl (x_buildL (pl := [(0, 1), (1, 1)]) (cells := [S e.src, nI k]) Tryz.underlying151 ty151 (by kernel_rfl) rfl)) ?_
        refine k_rd rfl rfl (RS.of rfl rfl (x_lookM TSp Tryz.underlying140 ty77 rfl rfl H 5 rfl (show _ = optM og from lk_pt.trans (by rw [← hg])))) ?_
        refine k_st rfl rfl rfl (s_callL cal44 (c44 (o := og) _ (fun m row h => IM.rd H 6 rfl (hg.symm.trans h)) H) ?_)
        rintro _ w ⟨m1, rfl, H⟩
        refine ⟨⟨trivial, ⟨trivial, ⟨trivial, ⟨trivial, ⟨trivial, ⟨trivial, ⟨trivial, ⟨trivial, ⟨trivial, trivial⟩⟩⟩⟩⟩⟩⟩⟩⟩, ?_⟩
        refine k_st rfl rfl rfl (s_rangeO TS Tryz.underlying77 0 rfl rfl H (fun bi w H => ⟨⟨trivial, ⟨trivial, ⟨trivial, ⟨trivial, ⟨trivial, ⟨trivial, ⟨trivial, ⟨trivial, ⟨trivial, trivial⟩⟩⟩⟩⟩⟩⟩⟩⟩, ?_⟩))
        show _
        refine WC.block ?_
        refine WC.loopN (I := fun n2 ρ w => ∃ (rest : List (ByteArray × Value)) (pre : List Rs), n2 = rest.length ∧ PreJ A n e K k (rowO og) rest s1 pre ∧ ρ 62 = .pointer (some ⟨bi, 0, none⟩) ∧ ρ 37 = I k ∧ ρ 36 = I A.rows.length ∧ ρ 7 = .pointer (some ⟨b7, 0, none⟩) ∧ ρ 0 = .func (.yield lb) #[] #[] ∧ ρ 1 = .pointer (some ⟨b1, 0, none⟩) ∧ ρ 2 = .pointer (some ⟨b2, 0, none⟩) ∧ Hd s w (J pre :: MRo TS m1 bi ((rowO og).map (gval I)) none rest :: pt b7 (.cells #[S e.dst, nI s1] 151 (0, 0)) :: pt b1 (.cells #[.pointer (some ⟨f, 0, none⟩)] 74 (0, 0)) :: pt b2 (.cells (edC e).toArray 35 (0, 0)) :: pt f (.cells (foC a mn ml cut last).toArray 143 (0, 0)) :: Mp TSp mn (n.map (gval pI)) :: IM TS I n :: Mp TS ml (lk.map (gval pI)) :: IM TLk I lk :: fz g :: L)) (n0 := _) (⟨_, pre, rfl, PreJ.start hP hlenK, rfl, h37, h36, rfl, h0, h1, h2, Hd.arrT [_, _, _, _, _, _, _, _, _, _, _] [2, 0, 1, 3, 4, 5, 6, 7, 8, 9, 10] (by decide) rfl H⟩) ?_
        repeat clear H
        rintro n2 ρ w ⟨rest, pre, hn2, hJ, h62, h37, h36, h7, h0, h1, h2, H⟩
        refine WC.seq ?_
        refine WC.region ?_
        refine l_st rfl (s_nextO TS 1 rfl h62 H (fun p A9 B9 w hsp H => ?_) (fun hnil => ?_))
        ·
          subst hsp
          obtain ⟨⟨r9, τ9⟩, hm9, rfl⟩ := List.mem_map.1 (hJ.sub p (by simp))
          refine l_rd rfl rfl (x_extract rfl rfl) ?_
          refine WL.nil ?_
          refine WC.seq ?_
          refine WC.cond1 rfl ?_
          refine WC.skip ?_
          refine WC.block ?_
          refine WC.seq ?_
          refine WC.region ?_
          refine l_rd rfl rfl (x_entryO TS H 1 rfl h62) ?_
          refine l_rd rfl rfl (x_extract rfl rfl) ?_
          refine l_rd rfl rfl (x_extract rfl rfl) ?_
          refine l_rd rfl rfl (x_assign (by conv => lhs; whnf)) ?_
          refine l_rd rfl rfl (x_assign (by conv => lhs; whnf)) ?_
          refine WL.nil ?_
          refine WC.seq ?_
          refine WC.region ?_
          refine l_rd rfl rfl (x_move h0) ?_
          refine l_rd rfl rfl (x_loadF (vs := [_, _]) Tryz.underlying151 rfl ty151 h7 rfl (H.cellsL 2 rfl rfl)) ?_
          refine l_rd rfl rfl (x_move (by conv => lhs; whnf)) ?_
          refine l_rd rfl rfl (x_move (by conv => lhs; whnf)) ?_
          refine l_rd rfl rfl (x_fieldAddr (k := 3) Tryz.underlying35 rfl rfl ty3 (by decide) h2) ?_
          refine l_rd rfl rfl (x_load Tryz.underlying3 rfl rfl (H.cellL 4 rfl rfl)) ?_
          refine l_rd rfl rfl (x_min (b := e.time) (a := τ9) rfl rfl) ?_
          rw [minI]
          refine l_rd rfl rfl (x_buildL (pl := [(0, 2), (2, 1), (3, 1)]) (cells := rsC ⟨e.dst, s1, r9, min τ9 e.time⟩) Tryz.underlying253 ty253 (by kernel_rfl) rfl) ?_
          refine l_st rfl (s_yieldL rfl (hy pre ⟨e.dst, s1, r9, min τ9 e.time⟩ [.agg (rsC ⟨e.dst, s1, r9, min τ9 e.time⟩).toArray] _ _ (hJ.okX ho1 hg hnr hm9) (Hd.swp (Hd.pure rfl H))) ?_)
          rintro v w (⟨rfl, H⟩ | ⟨rfl, H⟩)
          ·
            refine l_rd rfl rfl (x_not rfl) ?_
            refine WL.nil ?_
            refine WC.cond0 rfl ?_
            refine WC.skip ?_
            exact ⟨rfl, (A9 ++ B9).length, by rw [hn2]; simp, A9 ++ B9, pre ++ [⟨e.dst, s1, r9, min τ9 e.time⟩], rfl, hJ.next ho1 hg hnr, h62, h37, h36, h7, h0, h1, h2, MRo.rest H⟩
          ·
            refine l_rd rfl rfl (x_not rfl) ?_
            refine WL.nil ?_
            refine WC.cond1 rfl ?_
            refine WC.ret ?_
            refine atRet ?_
            exact RetM.none' rfl (.inr ⟨pre, ⟨e.dst, s1, r9, min τ9 e.time⟩, hJ.okX ho1 hg hnr hm9, Hd.swp (Hd.sep (A := [pt b1 (.cells #[.pointer (some ⟨f, 0, none⟩)] 74 (0, 0)), pt b2 (.cells (edC e).toArray 35 (0, 0)), pt f (.cells (foC a mn ml cut last).toArray 143 (0, 0)), Mp TSp mn (n.map (gval pI)), IM TS I n, Mp TS ml (lk.map (gval pI)), IM TLk I lk, fz g]) (Hd.arrT [_, _, _, _, _, _, _, _, _, _, _] [3, 4, 5, 6, 7, 8, 9, 10, 0] (by decide) rfl H))⟩)
        ·
          subst hnil
          refine l_rd rfl rfl (x_extract rfl rfl) ?_
          refine WL.nil ?_
          refine WC.seq ?_
          refine WC.cond0 rfl ?_
          refine WC.exit ?_
          refine WC.region ?_
          refine l_rd rfl rfl (x_add h37 rfl (by omega) (by omega)) ?_
          refine l_rd rfl rfl (x_move (by conv => lhs; whnf)) ?_
          refine WL.nil ?_
          refine WC.again (⟨k + 1, pre, by omega, hJ.done ho1 hg hnr, rfl, h36, h0, h1, h2, rfl, Hd.arrT [_, _, _, _, _, _, _, _, _, _, _] [0, 3, 4, 5, 6, 7, 8, 9, 10] (by decide) rfl H⟩) (by show _ - _ < _ - _; rw [h37o]; show A.rows.length - ((k : Int) + 1).toNat < A.rows.length - (k : Int).toNat; omega)
    ·
      have hkk : k = A.rows.length := by omega
      refine WL.nil ?_
      refine WC.seq ?_
      refine WC.cond0 rfl ?_
      refine WC.exit ?_
      refine atEnd ?_
      exact RetM.none' rfl (.inl ⟨pre, hP.fin hkk, Hd.swp (Hd.sep (A := [pt b1 (.cells #[.pointer (some ⟨f, 0, none⟩)] 74 (0, 0)), pt b2 (.cells (edC e).toArray 35 (0, 0)), pt f (.cells (foC a mn ml cut last).toArray 143 (0, 0)), Mp TSp mn (n.map (gval pI)), IM TS I n, Mp TS ml (lk.map (gval pI)), IM TLk I lk, fz g]) (Hd.arrT [_, _, _, _, _, _, _, _, _] [1, 2, 3, 4, 5, 6, 7, 8, 0] (by decide) rfl H))⟩)
  ·
    refine WC.region ?_
    refine l_rd rfl rfl (x_load Tryz.underlying74 rfl rfl (H.cellL 0 rfl rfl)) ?_
    refine l_rd rfl rfl (x_fieldAddr (k := 2) Tryz.underlying35 rfl rfl ty9 (by decide) rfl) ?_
    refine l_rd rfl rfl (x_load Tryz.underlying9 rfl rfl (H.cellL 1 rfl rfl)) ?_
    refine l_rd rfl rfl (x_fieldAddr (k := 1) Tryz.underlying35 rfl rfl ty9 (by decide) rfl) ?_
    refine l_rd rfl rfl (x_load Tryz.underlying9 rfl rfl (H.cellL 1 rfl rfl)) ?_
    refine l_st rfl (s_callL cal150 (c150 (sn := 0) _ (FoA.of hA H 2 rfl 7 rfl)) ?_)
    rintro r w ⟨hr1, e1⟩
    have H := H.ext e1
    obtain rfl : r = .tuple #[.agg #[S e.dst, nI s0], .bool true] := hr1.trans (by rw [← ho0]; rfl)
    refine l_rd rfl rfl (x_move (by conv => lhs; whnf)) ?_
    refine l_rd rfl rfl (x_extract rfl rfl) ?_
    refine l_rd rfl rfl (x_extract rfl rfl) ?_
    refine l_st rfl (s_alloc ty151 H fun b4 w H => ?_)
    refine l_no (s_stA 0 rfl ty151 rfl (by conv => lhs; whnf) rfl rfl rfl H fun w H => ?_)
    refine l_rd rfl rfl (x_assign (by conv => lhs; whnf)) ?_
    refine WL.nil ?_
    refine WC.seq ?_
    refine WC.region ?_
    refine l_rd rfl rfl (x_move (by conv => lhs; whnf)) ?_
    refine l_rd rfl rfl (x_move (by conv => lhs; whnf)) ?_
    refine l_gy (wantY rfl rfl rfl) rfl rfl (x_move (by conv => lhs; whnf)) ?_
    refine l_gy (wantY rfl rfl rfl) rfl rfl (x_loadF (vs := [_, _]) Tryz.underlying151 rfl ty151 rfl rfl (H.cellsL 0 rfl rfl)) ?_
    refine l_gy (wantY rfl rfl rfl) rfl rfl (x_fieldAddr (k := 0) Tryz.underlying35 rfl rfl ty9 (by decide) rfl) ?_
    refine l_gy (wantY rfl rfl rfl) rfl rfl (x_load Tryz.underlying9 rfl rfl (H.cellL 2 rfl rfl)) ?_
    refine l_gy (wantY rfl rfl rfl) rfl rfl (x_fieldAddr (k := 3) Tryz.underlying35 rfl rfl ty3 (by decide) rfl) ?_
    refine l_gy (wantY rfl rfl rfl) rfl rfl (x_load Tryz.underlying3 rfl rfl (H.cellL 2 rfl rfl)) ?_
    refine l_gy (wantY rfl rfl rfl) rfl rfl (x_buildL (pl := [(0, 2), (2, 1), (3, 1)]) (cells := rsC ⟨e.dst, s0, e.src, e.time⟩) Tryz.underlying253 ty253 (by kernel_rfl) rfl) ?_
    have H := Hd.arrT [_, _, _, _, _, _, _, _, _, _] [9, 0, 1, 2, 3, 4, 5, 6, 7, 8] (by decide) rfl H
    refine l_gst (wantY rfl rfl rfl) rfl (s_yieldL rfl (hy [] ⟨e.dst, s0, e.src, e.time⟩ [.agg (rsC ⟨e.dst, s0, e.src, e.time⟩).toArray] _ _ ⟨⟨rfl, .inl ⟨ho0.symm, rfl, rfl⟩⟩, Nat.zero_le _⟩ (Hd.swp (Hd.pure rfl H))) ?_)
    rintro v w (⟨rfl, H⟩ | ⟨rfl, H⟩)
    ·
      refine l_gy (wantY rfl rfl rfl) rfl rfl (x_not rfl) ?_
      refine l_rd rfl rfl (x_pick1 rfl (by conv => lhs; whnf)) ?_
      refine WL.nil ?_
      refine WC.cond0 rfl ?_
      refine WC.skip ?_
      refine WC.seq ?_
      refine WC.region ?_
      refine l_rd rfl rfl (x_load Tryz.underlying74 rfl rfl (H.cellL 2 rfl rfl)) ?_
      refine l_rd rfl rfl (x_nilCheck rfl) ?_
      refine l_rd rfl rfl (x_fieldAddr (k := 0) Tryz.underlying143 rfl rfl ty71 (by decide) rfl) ?_
      refine l_rd rfl rfl (x_load Tryz.underlying71 rfl rfl (H.cellL 4 rfl rfl)) ?_
      refine l_st rfl (s_callL cal51 (c51 _ (hA.rd (H.fz 9 rfl))) ?_)
      rintro _ w ⟨rfl, e1⟩
      have H := H.ext e1
      refine l_rd rfl rfl (x_move ev_c) ?_
      refine WL.nil ?_
      refine WC.block ?_
      refine WC.loop (fun ρ ds w => ∃ (k : Nat) (pre : List Rs), k ≤ A.rows.length ∧ PreI A n e K k pre ∧ ρ 37 = I k ∧ ρ 36 = I A.rows.length ∧ ρ 0 = .func (.yield lb) #[] #[] ∧ ρ 1 = .pointer (some ⟨b1, 0, none⟩) ∧ ρ 2 = .pointer (some ⟨b2, 0, none⟩) ∧ ds = [] ∧ Hd s w (J pre :: pt b1 (.cells #[.pointer (some ⟨f, 0, none⟩)] 74 (0, 0)) :: pt b2 (.cells (edC e).toArray 35 (0, 0)) :: pt f (.cells (foC a mn ml cut last).toArray 143 (0, 0)) :: Mp TSp mn (n.map (gval pI)) :: IM TS I n :: Mp TS ml (lk.map (gval pI)) :: IM TLk I lk :: fz g :: L)) (fun ρ w => A.rows.length - (match ρ 37 with | .int _ k => k.toNat | _ => 0)) (⟨0, [⟨e.dst, s0, e.src, e.time⟩], Nat.zero_le _, PreI.zero_y ho0, rfl, rfl, rfl, rfl, rfl, rfl, Hd.arrT [_, _, _, _, _, _, _, _, _, _] [0, 2, 3, 4, 5, 6, 7, 8, 9] (by decide) rfl H⟩) ?_
      repeat clear H
      rintro ρ ds w ⟨k, pre, hk, hP, h37, h36, h0, h1, h2, rfl, H⟩
      have h37o := h37
      have hE3 := hE.2.2
      refine WC.seq ?_
      refine WC.region ?_
      refine l_rdD rfl rfl (x_lss h37 h36) (fun h38 => ?_) (fun h38 => ?_)
      ·
        refine WL.nil ?_
        refine WC.seq ?_
        refine WC.cond1 rfl ?_
        refine WC.skip ?_
        refine WC.seq ?_
        refine WC.block ?_
        refine WC.seq ?_
        refine WC.region ?_
        refine l_rd rfl rfl (x_move h37) ?_
        refine l_rd rfl rfl (x_assign (by conv => lhs; whnf)) ?_
        refine WL.nil ?_
        refine WC.seq ?_
        obtain ⟨o1, ho1⟩ : ∃ o1, o1 = stepA A k e.lab := ⟨_, rfl⟩
        rcases o1 with _ | s1
        ·
          refine WC.region ?_
          refine l_rd rfl rfl (x_load Tryz.underlying74 rfl h1 (H.cellL 1 rfl rfl)) ?_
          refine l_rd rfl rfl (x_move (by conv => lhs; whnf)) ?_
          refine l_rd rfl rfl (x_fieldAddr (k := 2) Tryz.underlying35 rfl rfl ty9 (by decide) h2) ?_
          refine l_rd rfl rfl (x_load Tryz.underlying9 rfl rfl (H.cellL 2 rfl rfl)) ?_
          refine l_rd rfl rfl (x_fieldAddr (k := 1) Tryz.underlying35 rfl rfl ty9 (by decide) h2) ?_
          refine l_rd rfl rfl (x_load Tryz.underlying9 rfl rfl (H.cellL 2 rfl rfl)) ?_
          refine l_st rfl (s_callL cal150 (c150 (sn := k) _ (FoA.of hA H 3 rfl 8 rfl)) ?_)
          rintro r w ⟨hr1, e1⟩
          have H := H.ext e1
          obtain rfl : r = .tuple #[.agg #[S e.dst, I 0], .bool false] := hr1.trans (by rw [← ho1]; rfl)
          refine l_rd rfl rfl (x_move (by conv => lhs; whnf)) ?_
          refine l_rd rfl rfl (x_extract rfl rfl) ?_
          refine l_rd rfl rfl (x_extract rfl rfl) ?_
          refine l_st rfl (s_alloc ty151 H fun b7 w H => ?_)
          refine l_no (s_stA 0 rfl ty151 rfl (by conv => lhs; whnf) rfl rfl rfl H fun w H => ?_)
          refine l_rd rfl rfl (x_assign (by conv => lhs; whnf)) ?_
          refine WL.nil ?_
          refine WC.seq ?_
          refine WC.seq ?_
          refine WC.region ?_
          refine l_rd rfl rfl (x_move (by conv => lhs; whnf)) ?_
          refine l_rd rfl rfl (x_not rfl) ?_
          refine WL.nil ?_
          refine WC.cond1 rfl ?_
          refine WC.exit ?_
          refine WC.region ?_
          refine l_rd rfl rfl (x_add h37 rfl (by omega) (by omega)) ?_
          refine l_rd rfl rfl (x_move (by conv => lhs; whnf)) ?_
          refine WL.nil ?_
          refine WC.again (⟨k + 1, pre, by omega, hP.skip ho1, rfl, h36, h0, h1, h2, rfl, Hd.arrT [_, _, _, _, _, _, _, _, _, _] [1, 2, 3, 4, 5, 6, 7, 8, 9] (by decide) rfl H⟩) (by show _ - _ < _ - _; rw [h37o]; show A.rows.length - ((k : Int) + 1).toNat < A.rows.length - (k : Int).toNat; omega)
        ·
          refine WC.region ?_
          refine l_rd rfl rfl (x_load Tryz.underlying74 rfl h1 (H.cellL 1 rfl rfl)) ?_
          refine l_rd rfl rfl (x_move (by conv => lhs; whnf)) ?_
          refine l_rd rfl rfl (x_fieldAddr (k := 2) Tryz.underlying35 rfl rfl ty9 (by decide) h2) ?_
          refine l_rd rfl rfl (x_load Tryz.underlying9 rfl rfl (H.cellL 2 rfl rfl)) ?_
          refine l_rd rfl rfl (x_fieldAddr (k := 1) Tryz.underlying35 rfl rfl ty9 (by decide) h2) ?_
          refine l_rd rfl rfl (x_load Tryz.underlying9 rfl rfl (H.cellL 2 rfl rfl)) ?_
          refine l_st rfl (s_callL cal150 (c150 (sn := k) _ (FoA.of hA H 3 rfl 8 rfl)) ?_)
          rintro r w ⟨hr1, e1⟩
          have H := H.ext e1
          obtain rfl : r = .tuple #[.agg #[S e.dst, nI s1], .bool true] := hr1.trans (by rw [← ho1]; rfl)
          refine l_rd rfl rfl (x_move (by conv => lhs; whnf)) ?_
          refine l_rd rfl rfl (x_extract rfl rfl) ?_
          refine l_rd rfl rfl (x_extract rfl rfl) ?_
          refine l_st rfl (s_alloc ty151 H fun b7 w H => ?_)
          refine l_no (s_stA 0 rfl ty151 rfl (by conv => lhs; whnf) rfl rfl rfl H fun w H => ?_)
          refine l_rd rfl rfl (x_assign (by conv => lhs; whnf)) ?_
          refine WL.nil ?_
          refine WC.seq ?_
          refine WC.seq ?_
          refine WC.region ?_
          refine l_rd rfl rfl (x_move (by conv => lhs; whnf)) ?_
          refine l_rd rfl rfl (x_not rfl) ?_
          refine WL.nil ?_
          refine WC.cond0 rfl ?_
          refine WC.skip ?_
          refine WC.seq ?_
          obtain ⟨og, hg⟩ : ∃ og, og = glook (e.src, k) n := ⟨_, rfl⟩
          have hlenK : (rowO og).length ≤ K := by
            cases og with
            | none => exact Nat.zero_le _
            | some q => exact hK _ q hg.symm
          have hnr : ((rowO og).map (·.1)).Nodup := by
            cases og with
            | none => exact List.nodup_nil
            | some q => exact hok.row hg.symm
          refine WC.draw mixed [9, 10] [[], [0], [0, 1], [0, 1, 2], [], [4], [], [4, 5, 6], [0, 1, 2, 3, 4, 5, 6, 7], [0, 1, 2, 3, 4, 5, 6, 7, 8], [0, 1, 2, 3, 4, 5, 6, 7, 8, 9]] [0, 1, 2, 3, 4, 5, 6, 7, 8, 9, 10] (by kernel_rfl) ?_
          have H := H.drew
          refine k_rd rfl rfl (RS.of rfl rfl (x_load Tryz.underlying74 rfl h1 (H.cellL 2 rfl rfl))) ?_
          refine k_rd rfl rfl (RS.of rfl rfl (x_nilCheck rfl)) ?_
          refine k_rd rfl rfl (RS.of rfl rfl (x_fieldAddr (k := 1) Tryz.underlying143 rfl rfl ty140 (by decide) rfl)) ?_
          refine k_rd rfl rfl (RS.of rfl rfl (x_load Tryz.underlying140 rfl rfl (H.cellL 4 rfl rfl))) ?_
          refine k_rd rfl rfl (RS.of rfl rfl (x_fieldAddr (k := 0) Tryz.underlying35 rfl rfl ty9 (by decide) h2)) ?_
          refine k_rd rfl rfl (RS.of rfl rfl (x_load Tryz.underlying9 rfl rfl (H.cellL 3 rfl rfl))) ?_
          refine k_rd rfl rfl (RS.of rfl rfl (x_move (by conv => lhs; whnf))) ?_
          refine k_rd rfl rfl (RS.of rfl rfl (x_buildL (pl := [(0, 1), (1, 1)]) (cells := [S e.src, nI k]) Tryz.underlying151 ty151 (by kernel_rfl) rfl)) ?_
          refine k_rd rfl rfl (RS.of rfl rfl (x_lookM TSp Tryz.underlying140 ty77 rfl rfl H 5 rfl (show _ = optM og from lk_pt.trans (by rw [← hg])))) ?_
          refine k_st rfl rfl rfl (s_callL cal44 (c44 (o := og) _ (fun m row h => IM.rd H 6 rfl (hg.symm.trans h)) H) ?_)
          rintro _ w ⟨m1, rfl, H⟩
          refine ⟨⟨trivial, ⟨trivial, ⟨trivial, ⟨trivial, ⟨trivial, ⟨trivial, ⟨trivial, ⟨trivial, ⟨trivial, trivial⟩⟩⟩⟩⟩⟩⟩⟩⟩, ?_⟩
          refine k_st rfl rfl rfl (s_rangeO TS Tryz.underlying77 0 rfl rfl H (fun bi w H => ⟨⟨trivial, ⟨trivial, ⟨trivial, ⟨trivial, ⟨trivial, ⟨trivial, ⟨trivial, ⟨trivial, ⟨trivial, trivial⟩⟩⟩⟩⟩⟩⟩⟩⟩, ?_⟩))
          show _
          refine WC.block ?_
          refine WC.loopN (I := fun n2 ρ w => ∃ (rest : List (ByteArray × Value)) (pre : List Rs), n2 = rest.length ∧ PreJ A n e K k (rowO og) rest s1 pre ∧ ρ 62 = .pointer (some ⟨bi, 0, none⟩) ∧ ρ 37 = I k ∧ ρ 36 = I A.rows.length ∧ ρ 7 = .pointer (some ⟨b7, 0, none⟩) ∧ ρ 0 = .func (.yield lb) #[] #[] ∧ ρ 1 = .pointer (some ⟨b1, 0, none⟩) ∧ ρ 2 = .pointer (some ⟨b2, 0, none⟩) ∧ Hd s w (J pre :: MRo TS m1 bi ((rowO og).map (gval I)) none rest :: pt b7 (.cells #[S e.dst, nI s1] 151 (0, 0)) :: pt b1 (.cells #[.pointer (some ⟨f, 0, none⟩)] 74 (0, 0)) :: pt b2 (.cells (edC e).toArray 35 (0, 0)) :: pt f (.cells (foC a mn ml cut last).toArray 143 (0, 0)) :: Mp TSp mn (n.map (gval pI)) :: IM TS I n :: Mp TS ml (lk.map (gval pI)) :: IM TLk I lk :: fz g :: L)) (n0 := _) (⟨_, pre, rfl, PreJ.start hP hlenK, rfl, h37, h36, rfl, h0, h1, h2, Hd.arrT [_, _, _, _, _, _, _, _, _, _, _] [2, 0, 1, 3, 4, 5, 6, 7, 8, 9, 10] (by decide) rfl H⟩) ?_
          repeat clear H
          rintro n2 ρ w ⟨rest, pre, hn2, hJ, h62, h37, h36, h7, h0, h1, h2, H⟩
          refine WC.seq ?_
          refine WC.region ?_
          refine l_st rfl (s_nextO TS 1 rfl h62 H (fun p A9 B9 w hsp H => ?_) (fun hnil => ?_))
          ·
            subst hsp
            obtain ⟨⟨r9, τ9⟩, hm9, rfl⟩ := List.mem_map.1 (hJ.sub p (by simp))
            refine l_rd rfl rfl (x_extract rfl rfl) ?_
            refine WL.nil ?_
            refine WC.seq ?_
            refine WC.cond1 rfl ?_
            refine WC.skip ?_
            refine WC.block ?_
            refine WC.seq ?_
            refine WC.region ?_
            refine l_rd rfl rfl (x_entryO TS H 1 rfl h62) ?_
            refine l_rd rfl rfl (x_extract rfl rfl) ?_
            refine l_rd rfl rfl (x_extract rfl rfl) ?_
            refine l_rd rfl rfl (x_assign (by conv => lhs; whnf)) ?_
            refine l_rd rfl rfl (x_assign (by conv => lhs; whnf)) ?_
            refine WL.nil ?_
            refine WC.seq ?_
            refine WC.region ?_
            refine l_rd rfl rfl (x_move h0) ?_
            refine l_rd rfl rfl (x_loadF (vs := [_, _]) Tryz.underlying151 rfl ty151 h7 rfl (H.cellsL 2 rfl rfl)) ?_
            refine l_rd rfl rfl (x_move (by conv => lhs; whnf)) ?_
            refine l_rd rfl rfl (x_move (by conv => lhs; whnf)) ?_
            refine l_rd rfl rfl (x_fieldAddr (k := 3) Tryz.underlying35 rfl rfl ty3 (by decide) h2) ?_
            refine l_rd rfl rfl (x_load Tryz.underlying3 rfl rfl (H.cellL 4 rfl rfl)) ?_
            refine l_rd rfl rfl (x_min (b := e.time) (a := τ9) rfl rfl) ?_
            rw [minI]
            refine l_rd rfl rfl (x_buildL (pl := [(0, 2), (2, 1), (3, 1)]) (cells := rsC ⟨e.dst, s1, r9, min τ9 e.time⟩) Tryz.underlying253 ty253 (by kernel_rfl) rfl) ?_
            refine l_st rfl (s_yieldL rfl (hy pre ⟨e.dst, s1, r9, min τ9 e.time⟩ [.agg (rsC ⟨e.dst, s1, r9, min τ9 e.time⟩).toArray] _ _ (hJ.okX ho1 hg hnr hm9) (Hd.swp (Hd.pure rfl H))) ?_)
            rintro v w (⟨rfl, H⟩ | ⟨rfl, H⟩)
            ·
              refine l_rd rfl rfl (x_not rfl) ?_
              refine WL.nil ?_
              refine WC.cond0 rfl ?_
              refine WC.skip ?_
              exact ⟨rfl, (A9 ++ B9).length, by rw [hn2]; simp, A9 ++ B9, pre ++ [⟨e.dst, s1, r9, min τ9 e.time⟩], rfl, hJ.next ho1 hg hnr, h62, h37, h36, h7, h0, h1, h2, MRo.rest H⟩
            ·
              refine l_rd rfl rfl (x_not rfl) ?_
              refine WL.nil ?_
              refine WC.cond1 rfl ?_
              refine WC.ret ?_
              refine atRet ?_
              exact RetM.none' rfl (.inr ⟨pre, ⟨e.dst, s1, r9, min τ9 e.time⟩, hJ.okX ho1 hg hnr hm9, Hd.swp (Hd.sep (A := [pt b1 (.cells #[.pointer (some ⟨f, 0, none⟩)] 74 (0, 0)), pt b2 (.cells (edC e).toArray 35 (0, 0)), pt f (.cells (foC a mn ml cut last).toArray 143 (0, 0)), Mp TSp mn (n.map (gval pI)), IM TS I n, Mp TS ml (lk.map (gval pI)), IM TLk I lk, fz g]) (Hd.arrT [_, _, _, _, _, _, _, _, _, _, _] [3, 4, 5, 6, 7, 8, 9, 10, 0] (by decide) rfl H))⟩)
          ·
            subst hnil
            refine l_rd rfl rfl (x_extract rfl rfl) ?_
            refine WL.nil ?_
            refine WC.seq ?_
            refine WC.cond0 rfl ?_
            refine WC.exit ?_
            refine WC.region ?_
            refine l_rd rfl rfl (x_add h37 rfl (by omega) (by omega)) ?_
            refine l_rd rfl rfl (x_move (by conv => lhs; whnf)) ?_
            refine WL.nil ?_
            refine WC.again (⟨k + 1, pre, by omega, hJ.done ho1 hg hnr, rfl, h36, h0, h1, h2, rfl, Hd.arrT [_, _, _, _, _, _, _, _, _, _, _] [0, 3, 4, 5, 6, 7, 8, 9, 10] (by decide) rfl H⟩) (by show _ - _ < _ - _; rw [h37o]; show A.rows.length - ((k : Int) + 1).toNat < A.rows.length - (k : Int).toNat; omega)
      ·
        have hkk : k = A.rows.length := by omega
        refine WL.nil ?_
        refine WC.seq ?_
        refine WC.cond0 rfl ?_
        refine WC.exit ?_
        refine atEnd ?_
        exact RetM.none' rfl (.inl ⟨pre, hP.fin hkk, Hd.swp (Hd.sep (A := [pt b1 (.cells #[.pointer (some ⟨f, 0, none⟩)] 74 (0, 0)), pt b2 (.cells (edC e).toArray 35 (0, 0)), pt f (.cells (foC a mn ml cut last).toArray 143 (0, 0)), Mp TSp mn (n.map (gval pI)), IM TS I n, Mp TS ml (lk.map (gval pI)), IM TLk I lk, fz g]) (Hd.arrT [_, _, _, _, _, _, _, _, _] [1, 2, 3, 4, 5, 6, 7, 8, 0] (by decide) rfl H))⟩)
    ·
      refine l_gy (wantY rfl rfl rfl) rfl rfl (x_not rfl) ?_
      refine l_rd rfl rfl (x_pick1 rfl (by conv => lhs; whnf)) ?_
      refine WL.nil ?_
      refine WC.cond1 rfl ?_
      refine WC.ret ?_
      refine atRet ?_
      exact RetM.none' rfl (.inr ⟨[], ⟨e.dst, s0, e.src, e.time⟩, ⟨⟨rfl, .inl ⟨ho0.symm, rfl, rfl⟩⟩, Nat.zero_le _⟩, Hd.swp (Hd.sep (A := [pt b1 (.cells #[.pointer (some ⟨f, 0, none⟩)] 74 (0, 0)), pt b2 (.cells (edC e).toArray 35 (0, 0)), pt f (.cells (foC a mn ml cut last).toArray 143 (0, 0)), Mp TSp mn (n.map (gval pI)), IM TS I n, Mp TS ml (lk.map (gval pI)), IM TLk I lk, fz g]) (Hd.arrT [_, _, _, _, _, _, _, _, _, _] [2, 3, 4, 5, 6, 7, 8, 9, 0] (by decide) rfl H))⟩)
theorem c148 {s : Sy} [NoEx s] {L : List Hp} {f : Nat} {e : Ed} (hpv : oneC e.pv = true) (w : World) (H : Hd s w L) : CC Tryz.prog 148 [.pointer (some ⟨f, 0, none⟩), .agg (edC e).toArray].toArray w (fun r w' => ∃ b1 b2 : Nat, r = .func (.func 199) #[] #[.pointer (some ⟨b1, 0, none⟩), .pointer (some ⟨b2, 0, none⟩)] ∧ Hd s w' (pt b1 (.cells #[.pointer (some ⟨f, 0, none⟩)] 74 (0, 0)) :: pt b2 (.cells (edC e).toArray 35 (0, 0)) :: L)) := by
  refine CC.of (N := 6) Tryz.func148 rfl rfl rfl ?_
  refine WC.seq ?_
  refine WC.region ?_
  refine l_st rfl (s_box (by conv => lhs; whnf) H fun b2 w H => ?_)
  refine l_st rfl (s_box (by conv => lhs; whnf) H fun b3 w H => ?_)
  refine l_rd rfl rfl (x_assign ev_c) ?_
  refine WL.nil ?_
  refine WC.seq ?_
  refine WC.region ?_
  refine l_rd rfl rfl (x_makeFuncL) ?_
  refine l_rd rfl rfl (x_assign (by conv => lhs; whnf)) ?_
  refine WL.nil ?_
  refine WC.ret ?_
  refine atRet ?_
  exact RetM.one rfl (by (conv => lhs; whnf); try rfl) (⟨_, _, rfl, H.swp⟩)
theorem ty250 : Ty Tryz.prog 250 (.slice none 0 0) 1 24 := Ty.of (by kernel_rfl)
theorem cal198 : Cal Tryz.prog 198 := ⟨_, Tryz.func198, rfl, by decide⟩
theorem c198 {s : Sy} [NoEx s] {L : List Hp} {f : FuncId} {caps : List Value} {A : Hp} {B : List Rs → Hp} {ok : List Rs → Rs → Prop} {fin : List Rs → Prop} (w : World) (hc : Cal Tryz.prog f) (hit : ITa Tryz.prog s f caps eRs ok fin A B) (hlen : ∀ pre x, ok pre x → pre.length < 1000000000) (H : Hd s w (A :: L)) : CC Tryz.prog 198 [.slice none 0 0, .func (.func f) #[] caps.toArray].toArray w (fun r w' => ∃ xs, fin xs ∧ Hd s w' (Sl r 253 4 xs.length (xs.flatMap rsC) :: B xs :: L)) := by
  refine CC.of (N := 13) Tryz.func198 rfl rfl rfl ?_
  refine WC.seq ?_
  refine WC.region ?_
  refine l_st rfl (s_box (by conv => lhs; whnf) H fun b2 w H => ?_)
  refine l_rd rfl rfl (x_assign ev_c) ?_
  refine WL.nil ?_
  refine WC.seq ?_
  refine WC.seq ?_
  refine WC.region ?_
  refine l_rd rfl rfl (x_move (by conv => lhs; whnf)) ?_
  refine WL.nil ?_
  refine WC.block ?_
  have H := PX.mk (α := Value) (φ := fun _ => True) (A := fun v => [pt b2 (.cells #[v] 250 (0, 0)), Sl v 253 4 ([] : List Rs).length (([] : List Rs).flatMap rsC)]) (.slice none 0 0) trivial (Hd.arrT [_, _, _] [1, 0, 2] (by decide) rfl (Hd.nil H 253 4))
  refine WC.rangeFnA (P := Tryz.prog) (caps := caps) (E := eRs) (ok := ok) (fin := fin) (A := A) (B := B) (I := fun pre => PX (α := Value) (fun _ => True) (fun v => [pt b2 (.cells #[v] 250 (0, 0)), Sl v 253 4 pre.length (pre.flatMap rsC)])) (X := fun _ _ => fun _ => False) (L := L) rfl hc (by decide) (fun x vs h hv => by have : vs = _ := hv; rw [this]; rfl) hit H ?_ ?_ ?_
  ·
    intro l pre x vs w L' L2 hok hrec H
    obtain ⟨hh, _, hvs⟩ := H.fact_at 1 rfl
    have hvs : vs = [.agg (rsC x).toArray] := hvs
    subst hvs
    refine WC.region ?_
    refine l_st rfl (s_alloc ty253 H fun b5 w H => ?_)
    refine l_no (s_stA 0 rfl ty253 rfl (by conv => lhs; whnf) rfl rfl rfl H fun w H => ?_)
    refine WL.nil ?_
    refine ⟨⟨[_, _, _], H⟩, fun w2 hw2 => ?_⟩
    clear hrec
    have H := Hd.arrT [_, _, _] [1, 0] (by decide) rfl (hw2 [_, _, _] H)
    clear hw2
    obtain ⟨v0, -, H⟩ := PX.opn H
    obtain ⟨a0, c0, rfl⟩ := (H.sl 1 rfl).shape
    have hll := hlen pre x hok
    refine WC.block ?_
    refine WC.region ?_
    refine l_rd rfl rfl (x_load Tryz.underlying250 rfl rfl (H.cellL 0 rfl rfl)) ?_
    refine l_rd rfl rfl (x_loadF (vs := [_, _, _, _]) Tryz.underlying253 rfl ty253 rfl rfl (H.cellsL 2 rfl rfl)) ?_
    refine l_st rfl (s_build1A Tryz.underlying250 ty253 rfl (by decide) (by decide) (by conv => lhs; whnf) rfl H fun b10 w H => ?_)
    refine l_st rfl (s_append Tryz.underlying250 ty253 rfl (by decide) (by decide) rfl 2 rfl rfl rfl (H.sl 0 rfl) (by simp [Value.oneCell']) (by omega) H fun v11 w H => ?_)
    obtain ⟨a11, c11, rfl⟩ := (H.sl 2 rfl).shape
    refine l_no (s_st 1 rfl ty250 rfl (by conv => lhs; whnf) rfl rfl H fun w H => ?_)
    refine WL.nil ?_
    exact PX.mk _ trivial (by rw [len_snoc, List.flatMap_append]; exact Hd.arrT [_, _, _, _] [1, 2] (by decide) rfl H)
  ·
    intro w m xs hfin H
    obtain ⟨v0, -, H⟩ := PX.opn H
    obtain ⟨a0, c0, rfl⟩ := (H.sl 1 rfl).shape
    refine WC.seq ?_
    refine WC.region ?_
    refine l_rd rfl rfl (x_load Tryz.underlying250 rfl rfl (H.cellL 0 rfl rfl)) ?_
    refine l_rd rfl rfl (x_assign (by conv => lhs; whnf)) ?_
    refine WL.nil ?_
    refine WC.ret ?_
    refine atRet ?_
    refine RetM.mark H (i := 3) rfl (fun w H => ?_)
    exact RetM.one rfl (by (conv => lhs; whnf); try rfl) (⟨xs, hfin, Hd.arrT [_, _, _, _] [1, 2] (by decide) rfl H⟩)
  ·
    intro w m c pre x hok H
    obtain ⟨hh, _, hF⟩ := H.fact_at 0 rfl
    exact hF.elim
theorem c147 {s : Sy} [NoEx s] {L : List Hp} {f : FuncId} {caps : List Value} {A : Hp} {B : List Rs → Hp} {ok : List Rs → Rs → Prop} {fin : List Rs → Prop} (w : World) (hc : Cal Tryz.prog f) (hit : ITa Tryz.prog s f caps eRs ok fin A B) (hlen : ∀ pre x, ok pre x → pre.length < 1000000000) (H : Hd s w (A :: L)) : CC Tryz.prog 147 [.func (.func f) #[] caps.toArray].toArray w (fun r w' => ∃ xs, fin xs ∧ Hd s w' (Sl r 253 4 xs.length (xs.flatMap rsC) :: B xs :: L)) := by
  refine CC.of (N := 5) Tryz.func147 rfl rfl rfl ?_
  refine WC.seq ?_
  refine WC.region ?_
  refine l_rd rfl rfl (x_assign ev_c) ?_
  refine WL.nil ?_
  refine WC.seq ?_
  refine WC.region ?_
  refine l_rd rfl rfl (x_move (by conv => lhs; whnf)) ?_
  refine l_st rfl (s_callL cal198 (c198 _ hc hit hlen H) ?_)
  rintro v4 w ⟨xs, hfin, H⟩
  refine l_rd rfl rfl (x_assign (by conv => lhs; whnf)) ?_
  refine WL.nil ?_
  refine WC.ret ?_
  refine atRet ?_
  exact RetM.one rfl (by (conv => lhs; whnf); try rfl) (⟨xs, hfin, H⟩)
theorem ty35 : Ty Tryz.prog 35 (.agg #[(.string ⟨#[]⟩), (.string ⟨#[]⟩), (.string ⟨#[]⟩), (.int .i64 0), (.slice none 0 0)]) 5 80 := Ty.of (by kernel_rfl)
theorem ty141 : Ty Tryz.prog 141 (.map none) 1 8 := Ty.of (by kernel_rfl)
theorem ty148 : Ty Tryz.prog 148 (.agg #[(.string ⟨#[]⟩), (.string ⟨#[]⟩)]) 2 32 := Ty.of (by kernel_rfl)
theorem ty154 : Ty Tryz.prog 154 (.map none) 1 8 := Ty.of (by kernel_rfl)
theorem ty160 : Ty Tryz.prog 160 (.agg #[(.string ⟨#[]⟩), (.string ⟨#[]⟩)]) 2 32 := Ty.of (by kernel_rfl)
theorem cal147 : Cal Tryz.prog 147 := ⟨_, Tryz.func147, rfl, by decide⟩
theorem cal148 : Cal Tryz.prog 148 := ⟨_, Tryz.func148, rfl, by decide⟩
theorem cal149 : Cal Tryz.prog 149 := ⟨_, Tryz.func149, rfl, by decide⟩
theorem cal199 : Cal Tryz.prog 199 := ⟨_, Tryz.func199, rfl, by decide⟩
theorem thenX {i : Nat} {K : (Nat → Value) → List Nat → World → Prop} {Q : QE} {ρ : Nat → Value} {ds : List Nat} {w : World} (h : Q (.exit i) ρ ds w) : thenE K Q (.exit i) ρ ds w := h
theorem blockX {id j : Nat} {Q : QE} {ρ : Nat → Value} {ds : List Nat} {w : World} (hb : Nat.beq j id = true) (h : Q .normal ρ ds w) : blockE id Q (.exit j) ρ ds w := by
  unfold blockE; simp only [hb, cond_true]; exact h
def rowP {κ' α : Type} (o : Option (Nat × List (κ' × α))) : List (κ' × α) := match o with
  | some q => q.2
  | none => []
theorem optM_map {κ' α : Type} (o : Option (Nat × List (κ' × α))) : optM o = .map (o.map (·.1)) := by cases o <;> rfl
theorem IM.focusO {P : Program} {w : World} {s : Sy} {L : List Hp} {kt' : TypeId} {κ κ' α : Type} [DecidableEq κ] [DecidableEq κ'] {T2 : KT P kt' κ'} {f : α → Value} {l : N2 κ κ' α} {k : κ} {o : Option (Nat × List (κ' × α))} (hk : o = glook k l) (H : Hd s w (IM T2 f l :: L)) : ∃ rest : Hp, Hd s w (Mpo T2 (o.map (·.1)) ((rowP o).map (gval f)) :: rest :: L) ∧
    ∀ (w' : World) (L' : List Hp), Hd s w' (Mpo T2 (o.map (·.1)) ((rowP o).map (gval f)) :: rest :: L') → Hd s w' (IM T2 f l :: L') := by
  cases o with
  | none => exact ⟨_, Hd.pure rfl H, fun w' L' H' => H'.drop⟩
  | some q =>
    obtain ⟨m, row⟩ := q
    obtain ⟨rest, h1, h2, -⟩ := IM.focus (T2 := T2) (f := f) hk.symm H
    refine ⟨rest, h1, fun w' L' H' => ?_⟩
    have := h2 row w' L' H'
    rwa [gset_self hk.symm] at this
theorem rowLen {n : Nn} {E : List Hq} (hn : okN2 n) (hs : ∀ r v s t, nodT n r v s = some t → r ∈ srcs E) {q : Spot} {row : Nat × List (ByteArray × Int)} (h : glook q n = some row) : row.2.length ≤ E.length := by
  have h1 := len_sub (l := row.2.map (·.1)) (m := srcs E) (hn.row h) fun r hr => by
    obtain ⟨p, hp, rfl⟩ := List.mem_map.1 hr
    refine hs p.1 q.1 q.2 p.2 ?_
    unfold nodT look2
    rw [show ((q.1, q.2) : Spot) = q from rfl, h]
    exact mem_glook (hn.row h) hp
  simpa [srcs] using h1
theorem lrowLen {lk : Ln} {v : ByteArray} {ol : Option (Nat × List (Lk × Int))} (h : ol = glook v lk) : (rowP ol).length ≤ (edgs lk).length := by
  cases ol with
  | none => exact Nat.zero_le _
  | some q =>
    have hm := glook_mem h.symm
    show q.2.length ≤ _
    unfold edgs
    clear h
    induction lk with
    | nil => cases hm
    | cons p l ih =>
      rw [List.flatMap_cons, List.length_append, List.length_map]
      rcases List.mem_cons.1 hm with e | hm
      · rw [← e]; simp
      · have := ih hm; omega
theorem pot_le (A : Gr) (lk : List Hq) (n : Nn) (hE : okA A) (h : lk.length ≤ 20) : pot A lk n ≤ 2048000 := by
  have h1 : pot A lk n ≤ (univ A lk).length := List.length_filter_le _ _
  rw [univ_len] at h1
  have h2 : A.rows.length * lk.length ≤ 256 * 20 := Nat.mul_le_mul hE.2.2 h
  have h3 : lk.length * (A.rows.length * lk.length) ≤ 20 * (256 * 20) := Nat.mul_le_mul h h2
  have h4 := Nat.mul_le_mul h h3
  omega
/-- links gone through: what waits then -/
structure LI (A : Gr) (lk : Ln) (x : Rs) (row : List (Lk × Int)) (W : List Rs) (rest : List (Lk × Value)) (Wc : List Rs) : Prop where
  old : ∀ y ∈ W, y ∈ Wc
  snd : ∀ y ∈ Wc, y ∈ W ∨ ∃ to lab u s', lnkT lk x.v to lab = some u ∧ stepA A x.s lab = some s' ∧ y = ⟨to, s', x.r, min x.t u⟩
  here : ∀ q ∈ row, gval I q ∈ rest ∨ ∀ s', stepA A x.s q.1.2 = some s' → (⟨q.1.1, s', x.r, min x.t q.2⟩ : Rs) ∈ Wc
  sub : ∀ p ∈ rest, p ∈ row.map (gval I)
  len : Wc.length + rest.length ≤ W.length + row.length
theorem lrow_T {lk : Ln} {v to lab : ByteArray} {u : Int} {ol : Option (Nat × List (Lk × Int))} (h : ol = glook v lk) (hn : okN2 lk) (hm : ((to, lab), u) ∈ rowP ol) : lnkT lk v to lab = some u := by
  unfold lnkT look2
  rw [← h]
  cases ol with
  | none => cases hm
  | some q => exact mem_glook (hn.row h.symm) hm
theorem LI.start {A : Gr} {lk : Ln} {x : Rs} {ol : Option (Nat × List (Lk × Int))} {W : List Rs} (h : ol = glook x.v lk) (hn : okN2 lk) : LI A lk x (rowP ol) W ((rowP ol).map (gval I)) W :=
  ⟨fun y h => h, fun y h => .inl h, fun q hq => .inl (List.mem_map_of_mem hq), fun p h => h, by rw [List.length_map]; omega⟩
theorem LI.all {A : Gr} {lk : Ln} {x : Rs} {ol : Option (Nat × List (Lk × Int))} {W Wc : List Rs} {to lab : ByteArray} {u : Int} {s' : Nat} (hI : LI A lk x (rowP ol) W [] Wc) (h : ol = glook x.v lk) (a : lnkT lk x.v to lab = some u) (b : stepA A x.s lab = some s') : (⟨to, s', x.r, min x.t u⟩ : Rs) ∈ Wc := by
  unfold lnkT look2 at a
  rw [← h] at a
  cases ol with
  | none => cases a
  | some q =>
    rcases hI.here ((to, lab), u) (glook_mem a) with h1 | h1
    · cases h1
    · exact h1 s' b
theorem LI.pop {A : Gr} {lk : Ln} {x : Rs} {row : List (Lk × Int)} {W Wc Wd : List Rs} {A9 B9 : List (Lk × Value)} {q : Lk × Int} (h : LI A lk x row W (A9 ++ gval I q :: B9) Wc) (hold : ∀ y ∈ Wc, y ∈ Wd) (hsnd : ∀ y ∈ Wd, y ∈ Wc ∨ ∃ to lab u s', lnkT lk x.v to lab = some u ∧ stepA A x.s lab = some s' ∧ y = ⟨to, s', x.r, min x.t u⟩)
    (hq : ∀ s', stepA A x.s q.1.2 = some s' → (⟨q.1.1, s', x.r, min x.t q.2⟩ : Rs) ∈ Wd) (hl : Wd.length ≤ Wc.length + 1) : LI A lk x row W (A9 ++ B9) Wd := by
  refine ⟨fun y hy => hold y (h.old y hy), fun y hy => ?_, fun p hp => ?_, fun p hp => h.sub p ?_, ?_⟩
  · rcases hsnd y hy with h1 | h1
    · exact h.snd y h1
    · exact .inr h1
  · rcases h.here p hp with h1 | h1
    · rcases List.mem_append.1 h1 with h1 | h1
      · exact .inl (List.mem_append_left _ h1)
      · rcases List.mem_cons.1 h1 with h1 | h1
        · have e : p = q := by
            obtain ⟨p1, p2⟩ := p; obtain ⟨q1, q2⟩ := q
            simp only [gval, Prod.mk.injEq, Value.int.injEq, true_and] at h1
            rw [h1.1, h1.2]
          subst e; exact .inr hq
        · exact .inl (List.mem_append_right _ h1)
    · exact .inr fun s' a => hold _ (h1 s' a)
  · rcases List.mem_append.1 hp with hp | hp
    · exact List.mem_append_left _ hp
    · exact List.mem_append_right _ (List.mem_cons_of_mem _ hp)
  · have := h.len
    simp only [List.length_append, List.length_cons] at this ⊢
    omega
theorem LI.next_n {A : Gr} {lk : Ln} {x : Rs} {row : List (Lk × Int)} {W Wc : List Rs} {A9 B9 : List (Lk × Value)} {to9 lab9 : ByteArray} {u9 : Int} (h : LI A lk x row W (A9 ++ gval I ((to9, lab9), u9) :: B9) Wc) (ho : none = stepA A x.s lab9) : LI A lk x row W (A9 ++ B9) Wc :=
  h.pop (fun y h => h) (fun y h => .inl h) (fun s' hs => by rw [show stepA A x.s lab9 = none from ho.symm] at hs; cases hs) (by omega)
theorem LI.next_y {A : Gr} {lk : Ln} {x : Rs} {ol : Option (Nat × List (Lk × Int))} {W Wc : List Rs} {A9 B9 : List (Lk × Value)} {to9 lab9 : ByteArray} {u9 : Int} {s1 : Nat} (h : LI A lk x (rowP ol) W (A9 ++ gval I ((to9, lab9), u9) :: B9) Wc) (ho : some s1 = stepA A x.s lab9) (hm : ((to9, lab9), u9) ∈ rowP ol) (hol : ol = glook x.v lk) (hn : okN2 lk) :
    LI A lk x (rowP ol) W (A9 ++ B9) (Wc ++ [⟨to9, s1, x.r, min x.t u9⟩]) :=
  h.pop (fun y h => List.mem_append_left _ h) (fun y hy => by
    rcases List.mem_append.1 hy with h1 | h1
    · exact .inl h1
    · exact .inr ⟨to9, lab9, u9, s1, lrow_T hol hn hm, ho.symm, List.mem_singleton.1 h1⟩) (fun s' hs => by
    rw [show stepA A x.s lab9 = some s1 from ho.symm] at hs; cases hs
    exact List.mem_append_right _ (List.mem_singleton_self _)) (by simp)
theorem c80 {s : Sy} [NoEx s] {L : List Hp} {g : KE.Sub} {f a mn ml : Nat} {n : Nn} {lk : Ln} {cut last : Int} {A : Gr} {e : Ed} (w : World) (hE : okA A) (hAt : okTg A) (hA : AuG g a A) {E : List Hq} {c : Int} (hP : Pre A E c lk n e) (hok2 : okN2 lk) (hEd : E.length ≤ 20) (hEd9 : (edgs lk).length ≤ 20) (hpv : oneC e.pv = true) (H : Hd s w (pt f (.cells (foC a mn ml cut last).toArray 143 (0, 0)) :: Mp TSp mn (n.map (gval pI)) :: IM TS I n :: Mp TS ml (lk.map (gval pI)) :: IM TLk I lk :: fz g :: L)) : CC Tryz.prog 80 [.pointer (some ⟨f, 0, none⟩), .agg (edC e).toArray].toArray w (fun r w' => ∃ (n' : Nn) (met : List (Pq × Int)) (mm : Nat), r = .map (some mm) ∧ GI A E c lk n n' [] met ∧ Hd s w' (Mp TPq mm (met.map (gval I)) :: pt f (.cells (foC a mn ml cut last).toArray 143 (0, 0)) :: Mp TSp mn (n'.map (gval pI)) :: IM TS I n' :: Mp TS ml (lk.map (gval pI)) :: IM TLk I lk :: fz g :: L)) := by
  have hE3 := hE.2.2
  have hKE : A.rows.length * E.length ≤ 256 * 20 := Nat.mul_le_mul hE3 hEd
  refine CC.of (N := 83) Tryz.func80 rfl rfl rfl ?_
  refine WC.seq ?_
  refine WC.region ?_
  refine l_st rfl (s_box (by conv => lhs; whnf) H fun b3 w H => ?_)
  refine l_rd rfl rfl (x_assign ev_c) ?_
  refine WL.nil ?_
  refine WC.scope ?_
  refine WC.seq ?_
  refine WC.region ?_
  refine l_st rfl (s_makeMap H (fun m12 w H => ?_))
  have H := Hd.weak H (Mp.made TPq)
  refine l_rd rfl rfl (x_assign (by conv => lhs; whnf)) ?_
  refine WL.nil ?_
  refine WC.seq ?_
  refine WC.region ?_
  refine l_rd rfl rfl (x_move (by conv => lhs; whnf)) ?_
  refine l_rd rfl rfl (x_loadF (vs := [_, _, _, _, _]) Tryz.underlying35 rfl ty35 rfl rfl (H.cellsL 1 rfl rfl)) ?_
  refine l_st rfl (s_callL cal148 (c148 hpv _ H) ?_)
  rintro _ w ⟨x1, x2, rfl, H⟩
  refine l_st rfl (s_callL cal147 (c147 _ cal199 (it199 hE hA hP.ok (fun q row h => rowLen (E := E) hP.ok (fun r v s t h => (hP.fin r v s t h).1) h)) (fun pre x h => by have := h.2; omega) (Hd.sep (A := [pt x1 (.cells #[.pointer (some ⟨f, 0, none⟩)] 74 (0, 0)), pt x2 (.cells (edC e).toArray 35 (0, 0)), pt f (.cells (foC a mn ml cut last).toArray 143 (0, 0)), Mp TSp mn (n.map (gval pI)), IM TS I n, Mp TS ml (lk.map (gval pI)), IM TLk I lk, fz g]) (Hd.arrT [_, _, _, _, _, _, _, _, _, _] [0, 1, 4, 5, 6, 7, 8, 9, 2] (by decide) rfl H))) ?_)
  rintro v16 w ⟨W0, hW0, H⟩
  have H := Hd.unsep (A := [pt x1 (.cells #[.pointer (some ⟨f, 0, none⟩)] 74 (0, 0)), pt x2 (.cells (edC e).toArray 35 (0, 0)), pt f (.cells (foC a mn ml cut last).toArray 143 (0, 0)), Mp TSp mn (n.map (gval pI)), IM TS I n, Mp TS ml (lk.map (gval pI)), IM TLk I lk, fz g]) (Hd.swp H)
  refine l_rd rfl rfl (x_assign (by conv => lhs; whnf)) ?_
  refine WL.nil ?_
  refine WC.seq ?_
  refine WC.label ?_
  refine WC.seq ?_
  refine WC.block ?_
  have hgi := GI.start hP hAt hW0.1 hW0.2.1
  have hpot := pot_le A E n hE hEd
  have hEd2 := hEd
  refine WC.loopN (I := fun N9 ρ w => ∃ (nn : Nn) (W : List Rs) (met : List (Pq × Int)) (wv : Value), N9 = pot A E nn * ((edgs lk).length + 1) + W.length ∧ N9 ≤ 100000000 ∧ GI A E c lk n nn W met ∧ ρ 6 = wv ∧ ρ 5 = .map (some m12) ∧ ρ 0 = .pointer (some ⟨f, 0, none⟩) ∧ Hd s w (Sl wv 253 4 W.length (W.flatMap rsC) :: Mp TPq m12 (met.map (gval I)) :: pt f (.cells (foC a mn ml cut last).toArray 143 (0, 0)) :: Mp TSp mn (nn.map (gval pI)) :: IM TS I nn :: Mp TS ml (lk.map (gval pI)) :: IM TLk I lk :: fz g :: L)) (n0 := _) (⟨n, W0, [], _, rfl, by have := hW0.2.2; have : pot A E n * ((edgs lk).length + 1) ≤ 2048000 * 21 := Nat.mul_le_mul hpot (by omega); omega, hgi, rfl, rfl, rfl, Hd.arrT [_, _, _, _, _, _, _, _, _, _] [8, 9, 2, 3, 4, 5, 6, 7] (by decide) rfl H⟩) ?_
  repeat clear H
  rintro N9 ρ w ⟨nn, W, met, wv, hN, hN9, hgi, h6, h5, h0, H⟩
  obtain ⟨wa, wc, rfl⟩ := (H.sl 0 rfl).shape
  have hwl : W.length ≤ 100000000 := by omega
  refine WC.seq ?_
  refine WC.seq ?_
  refine WC.region ?_
  refine l_rd rfl rfl (x_move h6) ?_
  refine l_rd rfl rfl (x_lenSlice Tryz.underlying250 rfl rfl) ?_
  refine l_rdD rfl rfl (x_gtr rfl rfl) (fun h19 => ?_) (fun h19 => ?_)
  ·
    obtain ⟨x, W, rfl⟩ : ∃ x W2, W = x :: W2 := by
      cases W with
      | nil => exact absurd h19 (by decide)
      | cons x W2 => exact ⟨x, W2, rfl⟩
    obtain ⟨b1, o1, rfl, -⟩ := (show RdS w _ 4 rsC (x :: W) from H.sl 0 rfl).el rsC_len (show (x :: W)[0]? = some x from rfl)
    have hcap := (H.cap 0 rfl).1
    refine WL.nil ?_
    refine WC.cond1 rfl ?_
    refine WC.skip ?_
    refine WC.block ?_
    refine WC.seq ?_
    refine WC.region ?_
    refine l_rd rfl rfl (x_move h6) ?_
    refine l_rd rfl rfl (x_indexAddr Tryz.underlying250 ty253 rfl rfl (by omega) (by omega)) ?_
    refine l_rd rfl rfl (x_loadF (vs := [_, _, _, _]) Tryz.underlying253 rfl ty253 rfl rfl (sub_row 0 (RdS.at rsC_len (show RdS _ _ 4 rsC (x :: W) from H.sl 0 rfl) (show (x :: W)[0]? = some x from rfl)) rfl)) ?_
    refine l_st rfl (s_alloc ty253 H fun b7 w H => ?_)
    refine l_no (s_stA 0 rfl ty253 rfl (by conv => lhs; whnf) rfl rfl rfl H fun w H => ?_)
    refine WL.nil ?_
    refine WC.seq ?_
    refine WC.region ?_
    refine l_rd rfl rfl (x_move h6) ?_
    refine l_rd rfl rfl (x_sliceFromB (i := 1) Tryz.underlying250 ty253 rfl rfl (by omega) (by omega)) ?_
    refine l_rd rfl rfl (x_assign (by conv => lhs; whnf)) ?_
    refine WL.nil ?_
    refine WC.seq ?_
    refine WC.seq ?_
    have H := Hd.behead (k := 1) (Hd.arrT [_, _, _, _, _, _, _, _, _] [1, 0, 2, 3, 4, 5, 6, 7, 8] (by decide) rfl H) (by simp)
    rw [flat_drop rsC_len] at H
    change Hd s w (Sl _ 253 4 W.length (W.flatMap rsC) :: _) at H
    refine WC.region ?_
    refine l_rd rfl rfl (x_move h0) ?_
    refine l_rd rfl rfl (x_loadF (vs := [_, _, _, _]) Tryz.underlying253 rfl ty253 rfl rfl (H.cellsL 1 rfl rfl)) ?_
    refine l_st rfl (s_callL cal149 (c149 (x := x) _ (Hd.arrT [_, _, _, _, _, _, _, _, _] [3, 4, 5, 0, 1, 2, 6, 7, 8] (by decide) rfl H)) ?_)
    rintro v w (⟨rfl, ho, H⟩ | ⟨rfl, hlt, n2, hu, H⟩)
    ·
      refine l_rd rfl rfl (x_not rfl) ?_
      refine WL.nil ?_
      refine WC.cond1 rfl ?_
      refine WC.exit ?_
      obtain ⟨old, ho1, ho2⟩ := ho
      exact ⟨rfl, pot A E nn * ((edgs lk).length + 1) + W.length, by simp only [List.length_cons] at hN; omega, nn, W, met, _, rfl, by simp only [List.length_cons] at hN; omega, hgi.skip ho1 ho2, rfl, h5, h0, Hd.arrT [_, _, _, _, _, _, _, _, _] [3, 5, 0, 1, 2, 6, 7, 8] (by decide) rfl H⟩
    ·
      refine l_rd rfl rfl (x_not rfl) ?_
      refine WL.nil ?_
      refine WC.cond0 rfl ?_
      refine WC.skip ?_
      refine WC.seq ?_
      refine WC.seq ?_
      obtain ⟨tk, htk⟩ : ∃ tk, takesA A x.s = tk := ⟨_, rfl⟩
      cases tk
      ·
        refine WC.draw mixed [7] [[], [0], [0, 1], [0, 1, 2], [], [4], [4, 5], [0, 1, 2, 3, 4, 5, 6]] [0, 1, 2, 3, 4, 5, 6, 7] (by kernel_rfl) ?_
        have H := H.drew
        refine k_rd rfl rfl (RS.of rfl rfl (x_move h0)) ?_
        refine k_rd rfl rfl (RS.of rfl rfl (x_nilCheck rfl)) ?_
        refine k_rd rfl rfl (RS.of rfl rfl (x_fieldAddr (k := 0) Tryz.underlying143 rfl rfl ty71 (by decide) rfl)) ?_
        refine k_rd rfl rfl (RS.of rfl rfl (x_load Tryz.underlying71 rfl rfl (H.cellL 0 rfl rfl))) ?_
        refine k_rd rfl rfl (RS.of rfl rfl (x_fieldAddr (k := 0) Tryz.underlying253 rfl rfl ty151 (by decide) rfl)) ?_
        refine k_rd rfl rfl (RS.of rfl rfl (x_fieldAddr (k := 1) Tryz.underlying151 rfl rfl ty3 (by decide) rfl)) ?_
        refine k_rd rfl rfl (RS.of rfl rfl (x_load Tryz.underlying3 rfl rfl (H.cellL 4 rfl rfl))) ?_
        refine k_st rfl rfl rfl (s_callL cal53 (c53 (s := x.s) _ (hA.rd (H.fz 8 rfl)) hE.1) ?_)
        rintro r w ⟨hr1, e1⟩
        have H := H.ext e1
        obtain rfl : r = .bool false := hr1.trans (by rw [htk])
        refine ⟨⟨trivial, ⟨trivial, ⟨trivial, ⟨trivial, ⟨trivial, ⟨trivial, ⟨trivial, trivial⟩⟩⟩⟩⟩⟩⟩, ?_⟩
        show _
        refine WC.cond0 rfl ?_
        refine WC.skip ?_
        refine WC.seq ?_
        obtain ⟨ol, hol⟩ : ∃ ol, ol = glook x.v lk := ⟨_, rfl⟩
        obtain ⟨ril, H, hcl⟩ := IM.focusO hol (Hd.arrT [_, _, _, _, _, _, _, _, _] [7, 0, 1, 2, 3, 4, 5, 6, 8] (by decide) rfl H)
        refine WC.draw mixed [8] [[], [0], [0, 1], [0, 1, 2], [], [4], [4, 5], [0, 1, 2, 3, 4, 5, 6], [0, 1, 2, 3, 4, 5, 6, 7]] [0, 1, 2, 3, 4, 5, 6, 7, 8] (by kernel_rfl) ?_
        have H := H.drew
        refine k_rd rfl rfl (RS.of rfl rfl (x_move h0)) ?_
        refine k_rd rfl rfl (RS.of rfl rfl (x_nilCheck rfl)) ?_
        refine k_rd rfl rfl (RS.of rfl rfl (x_fieldAddr (k := 2) Tryz.underlying143 rfl rfl ty141 (by decide) rfl)) ?_
        refine k_rd rfl rfl (RS.of rfl rfl (x_load Tryz.underlying141 rfl rfl (H.cellL 2 rfl rfl))) ?_
        refine k_rd rfl rfl (RS.of rfl rfl (x_fieldAddr (k := 0) Tryz.underlying253 rfl rfl ty151 (by decide) rfl)) ?_
        refine k_rd rfl rfl (RS.of rfl rfl (x_fieldAddr (k := 0) Tryz.underlying151 rfl rfl ty9 (by decide) rfl)) ?_
        refine k_rd rfl rfl (RS.of rfl rfl (x_load Tryz.underlying9 rfl rfl (H.cellL 6 rfl rfl))) ?_
        refine k_rd rfl rfl (RS.of rfl rfl (x_lookM TS Tryz.underlying141 ty154 rfl rfl H 8 rfl (show _ = Value.map (ol.map (·.1)) from lk_pt.trans (by rw [← hol]; exact optM_map ol)))) ?_
        refine k_st rfl rfl rfl (s_rangeO (o := ol.map (·.1)) TLk Tryz.underlying154 0 rfl rfl H (fun bi w H => ⟨⟨trivial, ⟨trivial, ⟨trivial, ⟨trivial, ⟨trivial, ⟨trivial, ⟨trivial, ⟨trivial, trivial⟩⟩⟩⟩⟩⟩⟩⟩, ?_⟩))
        show _
        refine WC.block ?_
        have H : Hd s w (Sl _ 253 4 W.length (W.flatMap rsC) :: MRo TLk (ol.map (fun q9 : Nat × List (Lk × Int) => q9.1)) bi ((rowP ol).map (gval I)) none ((rowP ol).map (gval I)) :: pt b7 (.cells (rsC x).toArray 253 (0, 0)) :: ril :: Mp TPq m12 ((met).map (gval I)) :: pt f (.cells (foC a mn ml cut last).toArray 143 (0, 0)) :: Mp TSp mn (n2.map (gval pI)) :: IM TS I n2 :: Mp TS ml (lk.map (gval pI)) :: fz g :: L) := Hd.arrT [_, _, _, _, _, _, _, _, _, _] [5, 0, 6, 1, 7, 2, 3, 4, 8, 9] (by decide) rfl H
        refine WC.loopN (I := fun N8 ρ w => ∃ (rest : List (Lk × Value)) (Wc : List Rs) (wv : Value), N8 = rest.length ∧ LI A lk x (rowP ol) W rest Wc ∧ ρ 52 = .pointer (some ⟨bi, 0, none⟩) ∧ ρ 6 = wv ∧ ρ 5 = .map (some m12) ∧ ρ 7 = .pointer (some ⟨b7, 0, none⟩) ∧ ρ 0 = .pointer (some ⟨f, 0, none⟩) ∧ Hd s w (Sl wv 253 4 Wc.length (Wc.flatMap rsC) :: MRo TLk (ol.map (fun q9 : Nat × List (Lk × Int) => q9.1)) bi ((rowP ol).map (gval I)) none rest :: pt b7 (.cells (rsC x).toArray 253 (0, 0)) :: ril :: Mp TPq m12 ((met).map (gval I)) :: pt f (.cells (foC a mn ml cut last).toArray 143 (0, 0)) :: Mp TSp mn (n2.map (gval pI)) :: IM TS I n2 :: Mp TS ml (lk.map (gval pI)) :: fz g :: L)) (n0 := _) (⟨_, W, _, rfl, LI.start hol hok2, rfl, rfl, h5, rfl, h0, H⟩) ?_
        repeat clear H
        rintro N8 ρ w ⟨rest, Wc, wv, hN8, hLI, h52, h6, h5, h7, h0, H⟩
        obtain ⟨wa, wc, rfl⟩ := (H.sl 0 rfl).shape
        have hrl := lrowLen hol
        have hl9 := hLI.len
        simp only [List.length_cons] at hN
        refine WC.seq ?_
        refine WC.region ?_
        refine l_st rfl (s_nextO TLk 1 rfl h52 H (fun p A9 B9 w hsp H => ?_) (fun hnil => ?_))
        ·
          subst hsp
          obtain ⟨⟨⟨to9, lab9⟩, u9⟩, hm9, rfl⟩ := List.mem_map.1 (hLI.sub p (by simp))
          refine l_rd rfl rfl (x_extract rfl rfl) ?_
          refine WL.nil ?_
          refine WC.seq ?_
          refine WC.cond1 rfl ?_
          refine WC.skip ?_
          refine WC.block ?_
          refine WC.seq ?_
          refine WC.region ?_
          refine l_rd rfl rfl (x_entryO TLk H 1 rfl h52) ?_
          refine l_rd rfl rfl (x_extract rfl rfl) ?_
          refine l_rd rfl rfl (x_extract rfl rfl) ?_
          refine l_st rfl (s_alloc ty148 H fun b8 w H => ?_)
          refine l_no (s_stA 0 rfl ty148 rfl (by conv => lhs; whnf) rfl rfl rfl H fun w H => ?_)
          refine l_rd rfl rfl (x_assign (by conv => lhs; whnf)) ?_
          refine WL.nil ?_
          refine WC.seq ?_
          obtain ⟨o1, ho1⟩ : ∃ o1, o1 = stepA A x.s lab9 := ⟨_, rfl⟩
          rcases o1 with _ | s1
          ·
            refine WC.region ?_
            refine l_rd rfl rfl (x_move h0) ?_
            refine l_rd rfl rfl (x_fieldAddr (k := 0) Tryz.underlying253 rfl rfl ty151 (by decide) h7) ?_
            refine l_rd rfl rfl (x_fieldAddr (k := 1) Tryz.underlying151 rfl rfl ty3 (by decide) rfl) ?_
            refine l_rd rfl rfl (x_load Tryz.underlying3 rfl rfl (H.cellL 3 rfl rfl)) ?_
            refine l_rd rfl rfl (x_fieldAddr (k := 1) Tryz.underlying148 rfl rfl ty9 (by decide) rfl) ?_
            refine l_rd rfl rfl (x_load Tryz.underlying9 rfl rfl (H.cellL 0 rfl rfl)) ?_
            refine l_rd rfl rfl (x_fieldAddr (k := 0) Tryz.underlying148 rfl rfl ty9 (by decide) rfl) ?_
            refine l_rd rfl rfl (x_load Tryz.underlying9 rfl rfl (H.cellL 0 rfl rfl)) ?_
            refine l_st rfl (s_callL cal150 (c150 (sn := x.s) (lab := lab9) (to := to9) _ (FoA.of hA H 6 rfl 10 rfl)) ?_)
            rintro r w ⟨hr1, e1⟩
            have H := H.ext e1
            obtain rfl : r = .tuple #[.agg #[S to9, I 0], .bool false] := hr1.trans (by rw [← ho1]; rfl)
            refine l_rd rfl rfl (x_move (by conv => lhs; whnf)) ?_
            refine l_rd rfl rfl (x_extract rfl rfl) ?_
            refine l_rd rfl rfl (x_extract rfl rfl) ?_
            refine l_st rfl (s_alloc ty151 H fun b10 w H => ?_)
            refine l_no (s_stA 0 rfl ty151 rfl (by conv => lhs; whnf) rfl rfl rfl H fun w H => ?_)
            refine l_rd rfl rfl (x_assign (by conv => lhs; whnf)) ?_
            refine WL.nil ?_
            refine WC.seq ?_
            refine WC.region ?_
            refine l_rd rfl rfl (x_move (by conv => lhs; whnf)) ?_
            refine WL.nil ?_
            refine WC.cond0 rfl ?_
            refine WC.skip ?_
            skip
            exact ⟨rfl, (A9 ++ B9).length, by rw [hN8]; simp, A9 ++ B9, Wc, _, rfl, hLI.next_n ho1, h52, h6, h5, h7, h0, MRo.rest (Hd.arrT [_, _, _, _, _, _, _, _, _, _, _, _] [2, 3, 4, 5, 6, 7, 8, 9, 10, 11] (by decide) rfl H)⟩
          ·
            refine WC.region ?_
            refine l_rd rfl rfl (x_move h0) ?_
            refine l_rd rfl rfl (x_fieldAddr (k := 0) Tryz.underlying253 rfl rfl ty151 (by decide) h7) ?_
            refine l_rd rfl rfl (x_fieldAddr (k := 1) Tryz.underlying151 rfl rfl ty3 (by decide) rfl) ?_
            refine l_rd rfl rfl (x_load Tryz.underlying3 rfl rfl (H.cellL 3 rfl rfl)) ?_
            refine l_rd rfl rfl (x_fieldAddr (k := 1) Tryz.underlying148 rfl rfl ty9 (by decide) rfl) ?_
            refine l_rd rfl rfl (x_load Tryz.underlying9 rfl rfl (H.cellL 0 rfl rfl)) ?_
            refine l_rd rfl rfl (x_fieldAddr (k := 0) Tryz.underlying148 rfl rfl ty9 (by decide) rfl) ?_
            refine l_rd rfl rfl (x_load Tryz.underlying9 rfl rfl (H.cellL 0 rfl rfl)) ?_
            refine l_st rfl (s_callL cal150 (c150 (sn := x.s) (lab := lab9) (to := to9) _ (FoA.of hA H 6 rfl 10 rfl)) ?_)
            rintro r w ⟨hr1, e1⟩
            have H := H.ext e1
            obtain rfl : r = .tuple #[.agg #[S to9, nI s1], .bool true] := hr1.trans (by rw [← ho1]; rfl)
            refine l_rd rfl rfl (x_move (by conv => lhs; whnf)) ?_
            refine l_rd rfl rfl (x_extract rfl rfl) ?_
            refine l_rd rfl rfl (x_extract rfl rfl) ?_
            refine l_st rfl (s_alloc ty151 H fun b10 w H => ?_)
            refine l_no (s_stA 0 rfl ty151 rfl (by conv => lhs; whnf) rfl rfl rfl H fun w H => ?_)
            refine l_rd rfl rfl (x_assign (by conv => lhs; whnf)) ?_
            refine WL.nil ?_
            refine WC.seq ?_
            refine WC.region ?_
            refine l_rd rfl rfl (x_move (by conv => lhs; whnf)) ?_
            refine WL.nil ?_
            refine WC.cond1 rfl ?_
            refine WC.region ?_
            refine l_rd rfl rfl (x_move h6) ?_
            refine l_rd rfl rfl (x_loadF (vs := [_, _]) Tryz.underlying151 rfl ty151 rfl rfl (H.cellsL 0 rfl rfl)) ?_
            refine l_rd rfl rfl (x_fieldAddr (k := 2) Tryz.underlying253 rfl rfl ty9 (by decide) h7) ?_
            refine l_rd rfl rfl (x_load Tryz.underlying9 rfl rfl (H.cellL 4 rfl rfl)) ?_
            refine l_rd rfl rfl (x_fieldAddr (k := 3) Tryz.underlying253 rfl rfl ty3 (by decide) h7) ?_
            refine l_rd rfl rfl (x_load Tryz.underlying3 rfl rfl (H.cellL 4 rfl rfl)) ?_
            refine l_rd rfl rfl (x_move (by conv => lhs; whnf)) ?_
            refine l_rd rfl rfl (x_min (b := u9) (a := x.t) rfl rfl) ?_
            rw [minI]
            refine l_rd rfl rfl (x_buildL (pl := [(0, 2), (2, 1), (3, 1)]) (cells := rsC ⟨to9, s1, x.r, min x.t u9⟩) Tryz.underlying253 ty253 (by kernel_rfl) rfl) ?_
            refine l_st rfl (s_build1A Tryz.underlying250 ty253 rfl (by decide) (by decide) (by conv => lhs; whnf) rfl H fun b80 w H => ?_)
            refine l_st rfl (s_append Tryz.underlying250 ty253 rfl (by decide) (by decide) rfl 3 rfl rfl rfl (H.sl 0 rfl) (by simp [Value.oneCell']) (by omega) H fun v81 w H => ?_)
            obtain ⟨a81, c81, rfl⟩ := (H.sl 3 rfl).shape
            refine l_rd rfl rfl (x_assign (by conv => lhs; whnf)) ?_
            refine WL.nil ?_
            skip
            exact ⟨rfl, (A9 ++ B9).length, by rw [hN8]; simp, A9 ++ B9, Wc ++ [⟨to9, s1, x.r, min x.t u9⟩], _, rfl, hLI.next_y ho1 hm9 hol hok2, h52, rfl, h5, h7, h0, by rw [List.length_append, List.flatMap_append]; exact MRo.rest (Hd.arrT [_, _, _, _, _, _, _, _, _, _, _, _, _] [3, 4, 5, 6, 7, 8, 9, 10, 11, 12] (by decide) rfl H)⟩
        ·
          subst hnil
          refine l_rd rfl rfl (x_extract rfl rfl) ?_
          refine WL.nil ?_
          refine WC.seq ?_
          refine WC.cond0 rfl ?_
          refine WC.exit ?_
          refine thenX (thenX (blockX (id := 2) (j := 2) rfl (blockE_n ?_)))
          have H := hcl _ _ (MRo.map (Hd.arrT [_, _, _, _, _, _, _, _, _, _] [1, 3, 0, 2, 4, 5, 6, 7, 8, 9] (by decide) rfl H))
          have hp2 := pot_up (A := A) hu hlt (hgi.wfin x List.mem_cons_self)
          have hrl := lrowLen hol
          have hl9 := hLI.len
          have hmul : (pot A E n2 + 1) * ((edgs lk).length + 1) ≤ pot A E nn * ((edgs lk).length + 1) := Nat.mul_le_mul_right _ hp2
          rw [Nat.succ_mul] at hmul
          simp only [List.length_cons, List.length_nil] at hN hl9
          exact ⟨rfl, _, by show _ < N9; omega, n2, Wc, met, _, rfl, by omega, hgi.up hAt hP.lnk hu hlt hLI.old hLI.snd (fun to lab u s2 a b => hLI.all hol a b) (by rw [if_neg (by rw [htk]; decide)]), h6, h5, h0, Hd.arrT [_, _, _, _, _, _, _, _, _] [1, 3, 4, 5, 6, 7, 0, 8] (by decide) rfl H⟩
      ·
        refine WC.draw mixed [7] [[], [0], [0, 1], [0, 1, 2], [], [4], [4, 5], [0, 1, 2, 3, 4, 5, 6]] [0, 1, 2, 3, 4, 5, 6, 7] (by kernel_rfl) ?_
        have H := H.drew
        refine k_rd rfl rfl (RS.of rfl rfl (x_move h0)) ?_
        refine k_rd rfl rfl (RS.of rfl rfl (x_nilCheck rfl)) ?_
        refine k_rd rfl rfl (RS.of rfl rfl (x_fieldAddr (k := 0) Tryz.underlying143 rfl rfl ty71 (by decide) rfl)) ?_
        refine k_rd rfl rfl (RS.of rfl rfl (x_load Tryz.underlying71 rfl rfl (H.cellL 0 rfl rfl))) ?_
        refine k_rd rfl rfl (RS.of rfl rfl (x_fieldAddr (k := 0) Tryz.underlying253 rfl rfl ty151 (by decide) rfl)) ?_
        refine k_rd rfl rfl (RS.of rfl rfl (x_fieldAddr (k := 1) Tryz.underlying151 rfl rfl ty3 (by decide) rfl)) ?_
        refine k_rd rfl rfl (RS.of rfl rfl (x_load Tryz.underlying3 rfl rfl (H.cellL 4 rfl rfl))) ?_
        refine k_st rfl rfl rfl (s_callL cal53 (c53 (s := x.s) _ (hA.rd (H.fz 8 rfl)) hE.1) ?_)
        rintro r w ⟨hr1, e1⟩
        have H := H.ext e1
        obtain rfl : r = .bool true := hr1.trans (by rw [htk])
        refine ⟨⟨trivial, ⟨trivial, ⟨trivial, ⟨trivial, ⟨trivial, ⟨trivial, ⟨trivial, trivial⟩⟩⟩⟩⟩⟩⟩, ?_⟩
        show _
        refine WC.cond1 rfl ?_
        refine WC.region ?_
        refine l_rd rfl rfl (x_move h5) ?_
        refine l_rd rfl rfl (x_fieldAddr (k := 2) Tryz.underlying253 rfl rfl ty9 (by decide) rfl) ?_
        refine l_rd rfl rfl (x_load Tryz.underlying9 rfl rfl (H.cellL 4 rfl rfl)) ?_
        refine l_rd rfl rfl (x_fieldAddr (k := 0) Tryz.underlying253 rfl rfl ty151 (by decide) rfl) ?_
        refine l_rd rfl rfl (x_fieldAddr (k := 0) Tryz.underlying151 rfl rfl ty9 (by decide) rfl) ?_
        refine l_rd rfl rfl (x_load Tryz.underlying9 rfl rfl (H.cellL 4 rfl rfl)) ?_
        refine l_rd rfl rfl (x_buildL (pl := [(0, 1), (1, 1)]) (cells := [S x.r, S x.v]) Tryz.underlying160 ty160 (by kernel_rfl) rfl) ?_
        refine l_no (s_mapUpdate (k := (x.r, x.v)) TPq Tryz.underlying155 5 rfl rfl rfl ev_c H (fun w H => ?_))
        rw [aset_g I] at H
        refine WL.nil ?_
        refine WC.seq ?_
        obtain ⟨ol, hol⟩ : ∃ ol, ol = glook x.v lk := ⟨_, rfl⟩
        obtain ⟨ril, H, hcl⟩ := IM.focusO hol (Hd.arrT [_, _, _, _, _, _, _, _, _] [7, 0, 1, 2, 3, 4, 5, 6, 8] (by decide) rfl H)
        refine WC.draw mixed [8] [[], [0], [0, 1], [0, 1, 2], [], [4], [4, 5], [0, 1, 2, 3, 4, 5, 6], [0, 1, 2, 3, 4, 5, 6, 7]] [0, 1, 2, 3, 4, 5, 6, 7, 8] (by kernel_rfl) ?_
        have H := H.drew
        refine k_rd rfl rfl (RS.of rfl rfl (x_move h0)) ?_
        refine k_rd rfl rfl (RS.of rfl rfl (x_nilCheck rfl)) ?_
        refine k_rd rfl rfl (RS.of rfl rfl (x_fieldAddr (k := 2) Tryz.underlying143 rfl rfl ty141 (by decide) rfl)) ?_
        refine k_rd rfl rfl (RS.of rfl rfl (x_load Tryz.underlying141 rfl rfl (H.cellL 2 rfl rfl))) ?_
        refine k_rd rfl rfl (RS.of rfl rfl (x_fieldAddr (k := 0) Tryz.underlying253 rfl rfl ty151 (by decide) rfl)) ?_
        refine k_rd rfl rfl (RS.of rfl rfl (x_fieldAddr (k := 0) Tryz.underlying151 rfl rfl ty9 (by decide) rfl)) ?_
        refine k_rd rfl rfl (RS.of rfl rfl (x_load Tryz.underlying9 rfl rfl (H.cellL 6 rfl rfl))) ?_
        refine k_rd rfl rfl (RS.of rfl rfl (x_lookM TS Tryz.underlying141 ty154 rfl rfl H 8 rfl (show _ = Value.map (ol.map (·.1)) from lk_pt.trans (by rw [← hol]; exact optM_map ol)))) ?_
        refine k_st rfl rfl rfl (s_rangeO (o := ol.map (·.1)) TLk Tryz.underlying154 0 rfl rfl H (fun bi w H => ⟨⟨trivial, ⟨trivial, ⟨trivial, ⟨trivial, ⟨trivial, ⟨trivial, ⟨trivial, ⟨trivial, trivial⟩⟩⟩⟩⟩⟩⟩⟩, ?_⟩))
        show _
        refine WC.block ?_
        have H : Hd s w (Sl _ 253 4 W.length (W.flatMap rsC) :: MRo TLk (ol.map (fun q9 : Nat × List (Lk × Int) => q9.1)) bi ((rowP ol).map (gval I)) none ((rowP ol).map (gval I)) :: pt b7 (.cells (rsC x).toArray 253 (0, 0)) :: ril :: Mp TPq m12 ((gset (x.r, x.v) 1 met).map (gval I)) :: pt f (.cells (foC a mn ml cut last).toArray 143 (0, 0)) :: Mp TSp mn (n2.map (gval pI)) :: IM TS I n2 :: Mp TS ml (lk.map (gval pI)) :: fz g :: L) := Hd.arrT [_, _, _, _, _, _, _, _, _, _] [5, 0, 6, 1, 7, 2, 3, 4, 8, 9] (by decide) rfl H
        refine WC.loopN (I := fun N8 ρ w => ∃ (rest : List (Lk × Value)) (Wc : List Rs) (wv : Value), N8 = rest.length ∧ LI A lk x (rowP ol) W rest Wc ∧ ρ 52 = .pointer (some ⟨bi, 0, none⟩) ∧ ρ 6 = wv ∧ ρ 5 = .map (some m12) ∧ ρ 7 = .pointer (some ⟨b7, 0, none⟩) ∧ ρ 0 = .pointer (some ⟨f, 0, none⟩) ∧ Hd s w (Sl wv 253 4 Wc.length (Wc.flatMap rsC) :: MRo TLk (ol.map (fun q9 : Nat × List (Lk × Int) => q9.1)) bi ((rowP ol).map (gval I)) none rest :: pt b7 (.cells (rsC x).toArray 253 (0, 0)) :: ril :: Mp TPq m12 ((gset (x.r, x.v) 1 met).map (gval I)) :: pt f (.cells (foC a mn ml cut last).toArray 143 (0, 0)) :: Mp TSp mn (n2.map (gval pI)) :: IM TS I n2 :: Mp TS ml (lk.map (gval pI)) :: fz g :: L)) (n0 := _) (⟨_, W, _, rfl, LI.start hol hok2, rfl, rfl, h5, rfl, h0, H⟩) ?_
        repeat clear H
        rintro N8 ρ w ⟨rest, Wc, wv, hN8, hLI, h52, h6, h5, h7, h0, H⟩
        obtain ⟨wa, wc, rfl⟩ := (H.sl 0 rfl).shape
        have hrl := lrowLen hol
        have hl9 := hLI.len
        simp only [List.length_cons] at hN
        refine WC.seq ?_
        refine WC.region ?_
        refine l_st rfl (s_nextO TLk 1 rfl h52 H (fun p A9 B9 w hsp H => ?_) (fun hnil => ?_))
        ·
          subst hsp
          obtain ⟨⟨⟨to9, lab9⟩, u9⟩, hm9, rfl⟩ := List.mem_map.1 (hLI.sub p (by simp))
          refine l_rd rfl rfl (x_extract rfl rfl) ?_
          refine WL.nil ?_
          refine WC.seq ?_
          refine WC.cond1 rfl ?_
          refine WC.skip ?_
          refine WC.block ?_
          refine WC.seq ?_
          refine WC.region ?_
          refine l_rd rfl rfl (x_entryO TLk H 1 rfl h52) ?_
          refine l_rd rfl rfl (x_extract rfl rfl) ?_
          refine l_rd rfl rfl (x_extract rfl rfl) ?_
          refine l_st rfl (s_alloc ty148 H fun b8 w H => ?_)
          refine l_no (s_stA 0 rfl ty148 rfl (by conv => lhs; whnf) rfl rfl rfl H fun w H => ?_)
          refine l_rd rfl rfl (x_assign (by conv => lhs; whnf)) ?_
          refine WL.nil ?_
          refine WC.seq ?_
          obtain ⟨o1, ho1⟩ : ∃ o1, o1 = stepA A x.s lab9 := ⟨_, rfl⟩
          rcases o1 with _ | s1
          ·
            refine WC.region ?_
            refine l_rd rfl rfl (x_move h0) ?_
            refine l_rd rfl rfl (x_fieldAddr (k := 0) Tryz.underlying253 rfl rfl ty151 (by decide) h7) ?_
            refine l_rd rfl rfl (x_fieldAddr (k := 1) Tryz.underlying151 rfl rfl ty3 (by decide) rfl) ?_
            refine l_rd rfl rfl (x_load Tryz.underlying3 rfl rfl (H.cellL 3 rfl rfl)) ?_
            refine l_rd rfl rfl (x_fieldAddr (k := 1) Tryz.underlying148 rfl rfl ty9 (by decide) rfl) ?_
            refine l_rd rfl rfl (x_load Tryz.underlying9 rfl rfl (H.cellL 0 rfl rfl)) ?_
            refine l_rd rfl rfl (x_fieldAddr (k := 0) Tryz.underlying148 rfl rfl ty9 (by decide) rfl) ?_
            refine l_rd rfl rfl (x_load Tryz.underlying9 rfl rfl (H.cellL 0 rfl rfl)) ?_
            refine l_st rfl (s_callL cal150 (c150 (sn := x.s) (lab := lab9) (to := to9) _ (FoA.of hA H 6 rfl 10 rfl)) ?_)
            rintro r w ⟨hr1, e1⟩
            have H := H.ext e1
            obtain rfl : r = .tuple #[.agg #[S to9, I 0], .bool false] := hr1.trans (by rw [← ho1]; rfl)
            refine l_rd rfl rfl (x_move (by conv => lhs; whnf)) ?_
            refine l_rd rfl rfl (x_extract rfl rfl) ?_
            refine l_rd rfl rfl (x_extract rfl rfl) ?_
            refine l_st rfl (s_alloc ty151 H fun b10 w H => ?_)
            refine l_no (s_stA 0 rfl ty151 rfl (by conv => lhs; whnf) rfl rfl rfl H fun w H => ?_)
            refine l_rd rfl rfl (x_assign (by conv => lhs; whnf)) ?_
            refine WL.nil ?_
            refine WC.seq ?_
            refine WC.region ?_
            refine l_rd rfl rfl (x_move (by conv => lhs; whnf)) ?_
            refine WL.nil ?_
            refine WC.cond0 rfl ?_
            refine WC.skip ?_
            skip
            exact ⟨rfl, (A9 ++ B9).length, by rw [hN8]; simp, A9 ++ B9, Wc, _, rfl, hLI.next_n ho1, h52, h6, h5, h7, h0, MRo.rest (Hd.arrT [_, _, _, _, _, _, _, _, _, _, _, _] [2, 3, 4, 5, 6, 7, 8, 9, 10, 11] (by decide) rfl H)⟩
          ·
            refine WC.region ?_
            refine l_rd rfl rfl (x_move h0) ?_
            refine l_rd rfl rfl (x_fieldAddr (k := 0) Tryz.underlying253 rfl rfl ty151 (by decide) h7) ?_
            refine l_rd rfl rfl (x_fieldAddr (k := 1) Tryz.underlying151 rfl rfl ty3 (by decide) rfl) ?_
            refine l_rd rfl rfl (x_load Tryz.underlying3 rfl rfl (H.cellL 3 rfl rfl)) ?_
            refine l_rd rfl rfl (x_fieldAddr (k := 1) Tryz.underlying148 rfl rfl ty9 (by decide) rfl) ?_
            refine l_rd rfl rfl (x_load Tryz.underlying9 rfl rfl (H.cellL 0 rfl rfl)) ?_
            refine l_rd rfl rfl (x_fieldAddr (k := 0) Tryz.underlying148 rfl rfl ty9 (by decide) rfl) ?_
            refine l_rd rfl rfl (x_load Tryz.underlying9 rfl rfl (H.cellL 0 rfl rfl)) ?_
            refine l_st rfl (s_callL cal150 (c150 (sn := x.s) (lab := lab9) (to := to9) _ (FoA.of hA H 6 rfl 10 rfl)) ?_)
            rintro r w ⟨hr1, e1⟩
            have H := H.ext e1
            obtain rfl : r = .tuple #[.agg #[S to9, nI s1], .bool true] := hr1.trans (by rw [← ho1]; rfl)
            refine l_rd rfl rfl (x_move (by conv => lhs; whnf)) ?_
            refine l_rd rfl rfl (x_extract rfl rfl) ?_
            refine l_rd rfl rfl (x_extract rfl rfl) ?_
            refine l_st rfl (s_alloc ty151 H fun b10 w H => ?_)
            refine l_no (s_stA 0 rfl ty151 rfl (by conv => lhs; whnf) rfl rfl rfl H fun w H => ?_)
            refine l_rd rfl rfl (x_assign (by conv => lhs; whnf)) ?_
            refine WL.nil ?_
            refine WC.seq ?_
            refine WC.region ?_
            refine l_rd rfl rfl (x_move (by conv => lhs; whnf)) ?_
            refine WL.nil ?_
            refine WC.cond1 rfl ?_
            refine WC.region ?_
            refine l_rd rfl rfl (x_move h6) ?_
            refine l_rd rfl rfl (x_loadF (vs := [_, _]) Tryz.underlying151 rfl ty151 rfl rfl (H.cellsL 0 rfl rfl)) ?_
            refine l_rd rfl rfl (x_fieldAddr (k := 2) Tryz.underlying253 rfl rfl ty9 (by decide) h7) ?_
            refine l_rd rfl rfl (x_load Tryz.underlying9 rfl rfl (H.cellL 4 rfl rfl)) ?_
            refine l_rd rfl rfl (x_fieldAddr (k := 3) Tryz.underlying253 rfl rfl ty3 (by decide) h7) ?_
            refine l_rd rfl rfl (x_load Tryz.underlying3 rfl rfl (H.cellL 4 rfl rfl)) ?_
            refine l_rd rfl rfl (x_move (by conv => lhs; whnf)) ?_
            refine l_rd rfl rfl (x_min (b := u9) (a := x.t) rfl rfl) ?_
            rw [minI]
            refine l_rd rfl rfl (x_buildL (pl := [(0, 2), (2, 1), (3, 1)]) (cells := rsC ⟨to9, s1, x.r, min x.t u9⟩) Tryz.underlying253 ty253 (by kernel_rfl) rfl) ?_
            refine l_st rfl (s_build1A Tryz.underlying250 ty253 rfl (by decide) (by decide) (by conv => lhs; whnf) rfl H fun b80 w H => ?_)
            refine l_st rfl (s_append Tryz.underlying250 ty253 rfl (by decide) (by decide) rfl 3 rfl rfl rfl (H.sl 0 rfl) (by simp [Value.oneCell']) (by omega) H fun v81 w H => ?_)
            obtain ⟨a81, c81, rfl⟩ := (H.sl 3 rfl).shape
            refine l_rd rfl rfl (x_assign (by conv => lhs; whnf)) ?_
            refine WL.nil ?_
            skip
            exact ⟨rfl, (A9 ++ B9).length, by rw [hN8]; simp, A9 ++ B9, Wc ++ [⟨to9, s1, x.r, min x.t u9⟩], _, rfl, hLI.next_y ho1 hm9 hol hok2, h52, rfl, h5, h7, h0, by rw [List.length_append, List.flatMap_append]; exact MRo.rest (Hd.arrT [_, _, _, _, _, _, _, _, _, _, _, _, _] [3, 4, 5, 6, 7, 8, 9, 10, 11, 12] (by decide) rfl H)⟩
        ·
          subst hnil
          refine l_rd rfl rfl (x_extract rfl rfl) ?_
          refine WL.nil ?_
          refine WC.seq ?_
          refine WC.cond0 rfl ?_
          refine WC.exit ?_
          refine thenX (thenX (blockX (id := 2) (j := 2) rfl (blockE_n ?_)))
          have H := hcl _ _ (MRo.map (Hd.arrT [_, _, _, _, _, _, _, _, _, _] [1, 3, 0, 2, 4, 5, 6, 7, 8, 9] (by decide) rfl H))
          have hp2 := pot_up (A := A) hu hlt (hgi.wfin x List.mem_cons_self)
          have hrl := lrowLen hol
          have hl9 := hLI.len
          have hmul : (pot A E n2 + 1) * ((edgs lk).length + 1) ≤ pot A E nn * ((edgs lk).length + 1) := Nat.mul_le_mul_right _ hp2
          rw [Nat.succ_mul] at hmul
          simp only [List.length_cons, List.length_nil] at hN hl9
          exact ⟨rfl, _, by show _ < N9; omega, n2, Wc, gset (x.r, x.v) 1 met, _, rfl, by omega, hgi.up hAt hP.lnk hu hlt hLI.old hLI.snd (fun to lab u s2 a b => hLI.all hol a b) (by rw [if_pos htk]), h6, h5, h0, Hd.arrT [_, _, _, _, _, _, _, _, _] [1, 3, 4, 5, 6, 7, 0, 8] (by decide) rfl H⟩
  ·
    have hW : W = [] := List.eq_nil_of_length_eq_zero (by omega)
    subst hW
    refine WL.nil ?_
    refine WC.cond0 rfl ?_
    refine WC.exit ?_
    refine WC.seq ?_
    refine WC.region ?_
    refine l_rd rfl rfl (x_move h5) ?_
    refine l_rd rfl rfl (x_assign (by conv => lhs; whnf)) ?_
    refine WL.nil ?_
    refine WC.ret ?_
    refine atRet ?_
    exact RetM.one rfl (by (conv => lhs; whnf); try rfl) (⟨nn, met, m12, rfl, hgi, Hd.arrT [_, _, _, _, _, _, _, _] [1, 2, 3, 4, 5, 6, 7] (by decide) rfl H⟩)
/-- a map gone over, what a law takes is deleted -/
structure DI {κ : Type} [DecidableEq κ] (l lc : List (κ × Int)) (p : κ × Int → Bool) (rest : List (κ × Value)) : Prop where
  nd : (lc.map (·.1)).Nodup
  sub : ∀ x ∈ lc, x ∈ l
  keep : ∀ x ∈ l, p x = false → x ∈ lc
  here : ∀ x ∈ lc, gval I x ∈ rest ∨ p x = false
  rsub : ∀ y ∈ rest, y ∈ lc.map (gval I)
  rnd : (rest.map (·.1)).Nodup
theorem gvI_inj {κ : Type} {a b : κ × Int} (h : gval I a = gval I b) : a = b := by
  obtain ⟨a1, a2⟩ := a; obtain ⟨b1, b2⟩ := b
  simp only [gval, Prod.mk.injEq, Value.int.injEq, true_and] at h
  rw [h.1, h.2]
section
variable {κ : Type} [DecidableEq κ] {l lc : List (κ × Int)} {p : κ × Int → Bool} {rest A B2 : List (κ × Value)} {x : κ × Int}
theorem DI.start (hn : (l.map (·.1)).Nodup) : DI l l p (l.map (gval I)) :=
  ⟨hn, fun x h => h, fun x h _ => h, fun x h => .inl (List.mem_map_of_mem h), fun y h => h, by rw [keys_g]; exact hn⟩
theorem DI.fin (h : DI l lc p []) : ∀ x, x ∈ lc ↔ x ∈ l ∧ p x = false := fun x => ⟨fun hx => ⟨h.sub x hx, (h.here x hx).resolve_left (by simp)⟩, fun hx => h.keep x hx.1 hx.2⟩
theorem DI.mid (h : DI l lc p (A ++ gval I x :: B2)) : ∀ y ∈ A ++ B2, y.1 ≠ x.1 := by
  intro y hy e
  have hn := h.rnd
  rw [List.map_append, List.map_cons] at hn
  have hn2 := (List.perm_middle.nodup_iff).1 hn
  rw [List.nodup_cons] at hn2
  refine hn2.1 ?_
  rw [← List.map_append]
  show x.1 ∈ _
  rw [← e]; exact List.mem_map_of_mem (f := (·.1)) hy
theorem DI.rest_nd (h : DI l lc p (A ++ gval I x :: B2)) : ((A ++ B2).map (·.1)).Nodup := by
  have hn := h.rnd
  rw [List.map_append, List.map_cons] at hn
  have hn2 := (List.perm_middle.nodup_iff).1 hn
  rw [List.nodup_cons] at hn2
  rw [List.map_append]; exact hn2.2
theorem DI.keep_ (h : DI l lc p (A ++ gval I x :: B2)) (hp : p x = false) : DI l lc p (A ++ B2) := by
  refine ⟨h.nd, h.sub, h.keep, fun y hy => ?_, fun y hy => h.rsub y ?_, h.rest_nd⟩
  · rcases h.here y hy with h1 | h1
    · rcases List.mem_append.1 h1 with h1 | h1
      · exact .inl (List.mem_append_left _ h1)
      · rcases List.mem_cons.1 h1 with h1 | h1
        · have := gvI_inj h1; subst this; exact .inr hp
        · exact .inl (List.mem_append_right _ h1)
    · exact .inr h1
  · rcases List.mem_append.1 hy with hy | hy
    · exact List.mem_append_left _ hy
    · exact List.mem_append_right _ (List.mem_cons_of_mem _ hy)
theorem DI.del (h : DI l lc p (A ++ gval I x :: B2)) (hp : p x = true) : DI l (gdel x.1 lc) p (A ++ B2) := by
  have hm := fun y => gdel_mem (k := x.1) (p := y) h.nd
  have hxm : x ∈ lc := by
    obtain ⟨z, hz, e⟩ := List.mem_map.1 (h.rsub (gval I x) (by simp))
    have := gvI_inj e; subst this; exact hz
  refine ⟨h.nd.sublist (gdel_sub.map _), fun y hy => h.sub y ((hm y).1 hy).1, fun y hy hpy => (hm y).2 ⟨h.keep y hy hpy, fun e => ?_⟩, fun y hy => ?_, fun y hy => ?_, h.rest_nd⟩
  · have e2 : y = x := by
      have h1 := mem_glook h.nd (show (y.1, y.2) ∈ lc from h.keep y hy hpy)
      have h2 := mem_glook h.nd (show (x.1, x.2) ∈ lc from hxm)
      rw [e, h2] at h1
      exact Prod.ext e (Option.some.inj h1).symm
    subst e2; rw [hp] at hpy; cases hpy
  · obtain ⟨h1, h2⟩ := (hm y).1 hy
    rcases h.here y h1 with h3 | h3
    · rcases List.mem_append.1 h3 with h3 | h3
      · exact .inl (List.mem_append_left _ h3)
      · rcases List.mem_cons.1 h3 with h3 | h3
        · have := gvI_inj h3; subst this; exact absurd rfl h2
        · exact .inl (List.mem_append_right _ h3)
    · exact .inr h3
  · have hne := h.mid y hy
    have h1 : y ∈ lc.map (gval I) := h.rsub y (by
      rcases List.mem_append.1 hy with hy | hy
      · exact List.mem_append_left _ hy
      · exact List.mem_append_right _ (List.mem_cons_of_mem _ hy))
    obtain ⟨z, hz, rfl⟩ := List.mem_map.1 h1
    exact List.mem_map_of_mem ((hm z).2 ⟨hz, hne⟩)
end
theorem MR.rest {P : Program} {kt : TypeId} {κ : Type} [DecidableEq κ] {T : KT P kt κ} {s : Sy} {w : World} {L : List Hp} {m b : Nat} {l rest : List (κ × Value)} {cur : Option (κ × Value)} (H : Hd s w (MR T m b l cur rest :: L)) : Hd s w (MR T m b l none rest :: L) :=
  Hd.weak H fun h ⟨q, ⟨h1, h2, h3, _⟩, h5⟩ => ⟨q, ⟨h1, h2, h3, fun p hp => by cases hp⟩, h5⟩
theorem c81 {s : Sy} [NoEx s] {L : List Hp} {m : Nat} {l : List (Pq × Int)} {p : Pq × Int → Bool} {A : Hp} {fid : Nat} {caps : List Value} (w : World) (hn : (l.map (·.1)).Nodup) (hc : Cal Tryz.prog fid) (hp : ∀ x ∈ l, ∀ w1 L1, Hd s w1 (A :: L1) → CC Tryz.prog fid (.agg #[S x.1.1, S x.1.2] :: I x.2 :: caps).toArray w1 (fun r w' => r = .bool (p x) ∧ Ext w1 w')) (H : Hd s w (Mp TPq m (l.map (gval I)) :: A :: L)) : CC Tryz.prog 81 [.map (some m), .func (.func fid) #[] caps.toArray].toArray w (fun r w' => r = .tuple #[] ∧ ∃ l' : List (Pq × Int), (l'.map (·.1)).Nodup ∧ (∀ x, x ∈ l' ↔ x ∈ l ∧ p x = false) ∧ Hd s w' (Mp TPq m (l'.map (gval I)) :: A :: L)) := by
  refine CC.of (N := 19) Tryz.func81 rfl rfl rfl ?_
  refine WC.seq ?_
  refine WC.region ?_
  refine l_rd rfl rfl (x_move (by conv => lhs; whnf)) ?_
  refine l_st rfl (s_rangeM TPq Tryz.underlying155 0 rfl rfl H (fun bi w H => ?_))
  refine WL.nil ?_
  refine WC.block ?_
  refine WC.loopN (I := fun N9 ρ w => ∃ (lc : List (Pq × Int)) (rest : List (Pq × Value)), N9 = rest.length ∧ DI l lc p rest ∧ ρ 0 = .map (some m) ∧ ρ 1 = .func (.func fid) #[] caps.toArray ∧ ρ 7 = .pointer (some ⟨bi, 0, none⟩) ∧ Hd s w (MR TPq m bi (lc.map (gval I)) none rest :: A :: L)) (n0 := _) (⟨l, _, rfl, DI.start hn, rfl, rfl, rfl, Hd.arrT [_, _] [0, 1] (by decide) rfl H⟩) ?_
  repeat clear H
  rintro N9 ρ w ⟨lc, rest, hN, hD, h0, h1, h7, H⟩
  refine WC.seq ?_
  refine WC.region ?_
  refine l_st rfl (s_nextM TPq 0 rfl h7 H (fun p A B2 w hsp H => ?_) (fun hnil => ?_))
  ·
    subst hsp
    obtain ⟨x, hx, rfl⟩ := List.mem_map.1 (hD.rsub p (by simp))
    refine l_rd rfl rfl (x_extract rfl rfl) ?_
    refine WL.nil ?_
    refine WC.seq ?_
    refine WC.cond1 rfl ?_
    refine WC.skip ?_
    refine WC.block ?_
    refine WC.seq ?_
    refine WC.region ?_
    refine l_rd rfl rfl (x_entry TPq H 0 rfl h7) ?_
    refine l_rd rfl rfl (x_extract rfl rfl) ?_
    refine l_rd rfl rfl (x_extract rfl rfl) ?_
    refine l_st rfl (s_alloc ty160 H fun b4 w H => ?_)
    refine l_no (s_stA 0 rfl ty160 rfl (by conv => lhs; whnf) rfl rfl rfl H fun w H => ?_)
    refine l_rd rfl rfl (x_assign (by conv => lhs; whnf)) ?_
    refine WL.nil ?_
    refine WC.seq ?_
    refine WC.region ?_
    refine l_rd rfl rfl (x_move h1) ?_
    refine l_rd rfl rfl (x_loadF (vs := [_, _]) Tryz.underlying160 rfl ty160 rfl rfl (H.cellsL 0 rfl rfl)) ?_
    refine l_rd rfl rfl (x_move (by conv => lhs; whnf)) ?_
    refine l_st rfl (s_callvL (caps := caps) rfl hc (hp x (hD.sub x hx) _ _ (Hd.arrT [_, _, _] [2, 0, 1] (by decide) rfl H)) ?_)
    rintro r w ⟨hr1, e1⟩
    have H := H.ext e1
    cases hpx : p x
    ·
      rw [hpx] at hr1
      subst hr1
      refine WL.nil ?_
      refine WC.cond0 rfl ?_
      refine WC.skip ?_
      exact ⟨rfl, (A ++ B2).length, by rw [hN]; simp, lc, A ++ B2, rfl, hD.keep_ hpx, h0, h1, h7, MR.rest (Hd.arrT [_, _, _] [1, 2] (by decide) rfl H)⟩
    ·
      rw [hpx] at hr1
      subst hr1
      refine WL.nil ?_
      refine WC.cond1 rfl ?_
      refine WC.region ?_
      refine l_rd rfl rfl (x_move h0) ?_
      refine l_rd rfl rfl (x_loadF (vs := [_, _]) Tryz.underlying160 rfl ty160 rfl rfl (H.cellsL 0 rfl rfl)) ?_
      refine l_no (s_deleteM TPq Tryz.underlying155 rfl 1 rfl (by rw [keys_g]; exact hD.nd) rfl rfl H (fun w H => ?_))
      rw [show adel (gval I x).1 (lc.map (gval I)) = (gdel x.1 lc).map (gval I) from adel_g I _ _] at H
      refine WL.nil ?_
      exact ⟨rfl, (A ++ B2).length, by rw [hN]; simp, gdel x.1 lc, A ++ B2, rfl, hD.del hpx, h0, h1, h7, Hd.arrT [_, _, _] [1, 2] (by decide) rfl H⟩
  ·
    refine l_rd rfl rfl (x_extract rfl rfl) ?_
    refine WL.nil ?_
    refine WC.seq ?_
    refine WC.cond0 rfl ?_
    refine WC.exit ?_
    refine atEnd ?_
    subst hnil
    exact RetM.none' rfl ⟨rfl, lc, hD.nd, hD.fin, MR.map (Hd.arrT [_, _] [0, 1] (by decide) rfl H)⟩
theorem c75 {s : Sy} [NoEx s] {L : List Hp} {m : Nat} {l : List (ByteArray × Int)} {p : ByteArray × Int → Bool} {A : Hp} {fid : Nat} {caps : List Value} (w : World) (hn : (l.map (·.1)).Nodup) (hc : Cal Tryz.prog fid) (hp : ∀ x ∈ l, ∀ w1 L1, Hd s w1 (A :: L1) → CC Tryz.prog fid (S x.1 :: I x.2 :: caps).toArray w1 (fun r w' => r = .bool (p x) ∧ Ext w1 w')) (H : Hd s w (Mp TS m (l.map (gval I)) :: A :: L)) : CC Tryz.prog 75 [.map (some m), .func (.func fid) #[] caps.toArray].toArray w (fun r w' => r = .tuple #[] ∧ ∃ l' : List (ByteArray × Int), (l'.map (·.1)).Nodup ∧ (∀ x, x ∈ l' ↔ x ∈ l ∧ p x = false) ∧ Hd s w' (Mp TS m (l'.map (gval I)) :: A :: L)) := by
  refine CC.of (N := 19) Tryz.func75 rfl rfl rfl ?_
  refine WC.seq ?_
  refine WC.region ?_
  refine l_rd rfl rfl (x_move (by conv => lhs; whnf)) ?_
  refine l_st rfl (s_rangeM TS Tryz.underlying77 0 rfl rfl H (fun bi w H => ?_))
  refine WL.nil ?_
  refine WC.block ?_
  refine WC.loopN (I := fun N9 ρ w => ∃ (lc : List (ByteArray × Int)) (rest : List (ByteArray × Value)), N9 = rest.length ∧ DI l lc p rest ∧ ρ 0 = .map (some m) ∧ ρ 1 = .func (.func fid) #[] caps.toArray ∧ ρ 7 = .pointer (some ⟨bi, 0, none⟩) ∧ Hd s w (MR TS m bi (lc.map (gval I)) none rest :: A :: L)) (n0 := _) (⟨l, _, rfl, DI.start hn, rfl, rfl, rfl, Hd.arrT [_, _] [0, 1] (by decide) rfl H⟩) ?_
  repeat clear H
  rintro N9 ρ w ⟨lc, rest, hN, hD, h0, h1, h7, H⟩
  refine WC.seq ?_
  refine WC.region ?_
  refine l_st rfl (s_nextM TS 0 rfl h7 H (fun p A B2 w hsp H => ?_) (fun hnil => ?_))
  ·
    subst hsp
    obtain ⟨x, hx, rfl⟩ := List.mem_map.1 (hD.rsub p (by simp))
    refine l_rd rfl rfl (x_extract rfl rfl) ?_
    refine WL.nil ?_
    refine WC.seq ?_
    refine WC.cond1 rfl ?_
    refine WC.skip ?_
    refine WC.block ?_
    refine WC.seq ?_
    refine WC.region ?_
    refine l_rd rfl rfl (x_entry TS H 0 rfl h7) ?_
    refine l_rd rfl rfl (x_extract rfl rfl) ?_
    refine l_rd rfl rfl (x_extract rfl rfl) ?_
    refine l_rd rfl rfl (x_assign (by conv => lhs; whnf)) ?_
    refine l_rd rfl rfl (x_assign (by conv => lhs; whnf)) ?_
    refine WL.nil ?_
    refine WC.seq ?_
    refine WC.region ?_
    refine l_rd rfl rfl (x_move h1) ?_
    refine l_rd rfl rfl (x_move (by conv => lhs; whnf)) ?_
    refine l_rd rfl rfl (x_move (by conv => lhs; whnf)) ?_
    refine l_st rfl (s_callvL (caps := caps) rfl hc (hp x (hD.sub x hx) _ _ (Hd.arrT [_, _] [1, 0] (by decide) rfl H)) ?_)
    rintro r w ⟨hr1, e1⟩
    have H := H.ext e1
    cases hpx : p x
    ·
      rw [hpx] at hr1
      subst hr1
      refine WL.nil ?_
      refine WC.cond0 rfl ?_
      refine WC.skip ?_
      exact ⟨rfl, (A ++ B2).length, by rw [hN]; simp, lc, A ++ B2, rfl, hD.keep_ hpx, h0, h1, h7, MR.rest (Hd.arrT [_, _] [0, 1] (by decide) rfl H)⟩
    ·
      rw [hpx] at hr1
      subst hr1
      refine WL.nil ?_
      refine WC.cond1 rfl ?_
      refine WC.region ?_
      refine l_rd rfl rfl (x_move h0) ?_
      refine l_rd rfl rfl (x_move (by conv => lhs; whnf)) ?_
      refine l_no (s_deleteM TS Tryz.underlying77 rfl 0 rfl (by rw [keys_g]; exact hD.nd) rfl rfl H (fun w H => ?_))
      rw [show adel (gval I x).1 (lc.map (gval I)) = (gdel x.1 lc).map (gval I) from adel_g I _ _] at H
      refine WL.nil ?_
      exact ⟨rfl, (A ++ B2).length, by rw [hN]; simp, gdel x.1 lc, A ++ B2, rfl, hD.del hpx, h0, h1, h7, Hd.arrT [_, _] [0, 1] (by decide) rfl H⟩
  ·
    refine l_rd rfl rfl (x_extract rfl rfl) ?_
    refine WL.nil ?_
    refine WC.seq ?_
    refine WC.cond0 rfl ?_
    refine WC.exit ?_
    refine atEnd ?_
    subst hnil
    exact RetM.none' rfl ⟨rfl, lc, hD.nd, hD.fin, MR.map (Hd.arrT [_, _] [0, 1] (by decide) rfl H)⟩
theorem c140 {s : Sy} [NoEx s] {L : List Hp} {m : Nat} {l : List (Lk × Int)} {p : Lk × Int → Bool} {A : Hp} {fid : Nat} {caps : List Value} (w : World) (hn : (l.map (·.1)).Nodup) (hc : Cal Tryz.prog fid) (hp : ∀ x ∈ l, ∀ w1 L1, Hd s w1 (A :: L1) → CC Tryz.prog fid (.agg #[S x.1.1, S x.1.2] :: I x.2 :: caps).toArray w1 (fun r w' => r = .bool (p x) ∧ Ext w1 w')) (H : Hd s w (Mp TLk m (l.map (gval I)) :: A :: L)) : CC Tryz.prog 140 [.map (some m), .func (.func fid) #[] caps.toArray].toArray w (fun r w' => r = .tuple #[] ∧ ∃ l' : List (Lk × Int), (l'.map (·.1)).Nodup ∧ (∀ x, x ∈ l' ↔ x ∈ l ∧ p x = false) ∧ Hd s w' (Mp TLk m (l'.map (gval I)) :: A :: L)) := by
  refine CC.of (N := 19) Tryz.func140 rfl rfl rfl ?_
  refine WC.seq ?_
  refine WC.region ?_
  refine l_rd rfl rfl (x_move (by conv => lhs; whnf)) ?_
  refine l_st rfl (s_rangeM TLk Tryz.underlying154 0 rfl rfl H (fun bi w H => ?_))
  refine WL.nil ?_
  refine WC.block ?_
  refine WC.loopN (I := fun N9 ρ w => ∃ (lc : List (Lk × Int)) (rest : List (Lk × Value)), N9 = rest.length ∧ DI l lc p rest ∧ ρ 0 = .map (some m) ∧ ρ 1 = .func (.func fid) #[] caps.toArray ∧ ρ 7 = .pointer (some ⟨bi, 0, none⟩) ∧ Hd s w (MR TLk m bi (lc.map (gval I)) none rest :: A :: L)) (n0 := _) (⟨l, _, rfl, DI.start hn, rfl, rfl, rfl, Hd.arrT [_, _] [0, 1] (by decide) rfl H⟩) ?_
  repeat clear H
  rintro N9 ρ w ⟨lc, rest, hN, hD, h0, h1, h7, H⟩
  refine WC.seq ?_
  refine WC.region ?_
  refine l_st rfl (s_nextM TLk 0 rfl h7 H (fun p A B2 w hsp H => ?_) (fun hnil => ?_))
  ·
    subst hsp
    obtain ⟨x, hx, rfl⟩ := List.mem_map.1 (hD.rsub p (by simp))
    refine l_rd rfl rfl (x_extract rfl rfl) ?_
    refine WL.nil ?_
    refine WC.seq ?_
    refine WC.cond1 rfl ?_
    refine WC.skip ?_
    refine WC.block ?_
    refine WC.seq ?_
    refine WC.region ?_
    refine l_rd rfl rfl (x_entry TLk H 0 rfl h7) ?_
    refine l_rd rfl rfl (x_extract rfl rfl) ?_
    refine l_rd rfl rfl (x_extract rfl rfl) ?_
    refine l_st rfl (s_alloc ty148 H fun b4 w H => ?_)
    refine l_no (s_stA 0 rfl ty148 rfl (by conv => lhs; whnf) rfl rfl rfl H fun w H => ?_)
    refine l_rd rfl rfl (x_assign (by conv => lhs; whnf)) ?_
    refine WL.nil ?_
    refine WC.seq ?_
    refine WC.region ?_
    refine l_rd rfl rfl (x_move h1) ?_
    refine l_rd rfl rfl (x_loadF (vs := [_, _]) Tryz.underlying148 rfl ty148 rfl rfl (H.cellsL 0 rfl rfl)) ?_
    refine l_rd rfl rfl (x_move (by conv => lhs; whnf)) ?_
    refine l_st rfl (s_callvL (caps := caps) rfl hc (hp x (hD.sub x hx) _ _ (Hd.arrT [_, _, _] [2, 0, 1] (by decide) rfl H)) ?_)
    rintro r w ⟨hr1, e1⟩
    have H := H.ext e1
    cases hpx : p x
    ·
      rw [hpx] at hr1
      subst hr1
      refine WL.nil ?_
      refine WC.cond0 rfl ?_
      refine WC.skip ?_
      exact ⟨rfl, (A ++ B2).length, by rw [hN]; simp, lc, A ++ B2, rfl, hD.keep_ hpx, h0, h1, h7, MR.rest (Hd.arrT [_, _, _] [1, 2] (by decide) rfl H)⟩
    ·
      rw [hpx] at hr1
      subst hr1
      refine WL.nil ?_
      refine WC.cond1 rfl ?_
      refine WC.region ?_
      refine l_rd rfl rfl (x_move h0) ?_
      refine l_rd rfl rfl (x_loadF (vs := [_, _]) Tryz.underlying148 rfl ty148 rfl rfl (H.cellsL 0 rfl rfl)) ?_
      refine l_no (s_deleteM TLk Tryz.underlying154 rfl 1 rfl (by rw [keys_g]; exact hD.nd) rfl rfl H (fun w H => ?_))
      rw [show adel (gval I x).1 (lc.map (gval I)) = (gdel x.1 lc).map (gval I) from adel_g I _ _] at H
      refine WL.nil ?_
      exact ⟨rfl, (A ++ B2).length, by rw [hN]; simp, gdel x.1 lc, A ++ B2, rfl, hD.del hpx, h0, h1, h7, Hd.arrT [_, _, _] [1, 2] (by decide) rfl H⟩
  ·
    refine l_rd rfl rfl (x_extract rfl rfl) ?_
    refine WL.nil ?_
    refine WC.seq ?_
    refine WC.cond0 rfl ?_
    refine WC.exit ?_
    refine atEnd ?_
    subst hnil
    exact RetM.none' rfl ⟨rfl, lc, hD.nd, hD.fin, MR.map (Hd.arrT [_, _] [0, 1] (by decide) rfl H)⟩
theorem cal75 : Cal Tryz.prog 75 := ⟨_, Tryz.func75, rfl, by decide⟩
theorem cal79 : Cal Tryz.prog 79 := ⟨_, Tryz.func79, rfl, by decide⟩
theorem cal140 : Cal Tryz.prog 140 := ⟨_, Tryz.func140, rfl, by decide⟩
theorem cal141 : Cal Tryz.prog 141 := ⟨_, Tryz.func141, rfl, by decide⟩
theorem cal142 : Cal Tryz.prog 142 := ⟨_, Tryz.func142, rfl, by decide⟩
def metP (was : List (Pq × Int)) (A : Gr) (n : Nn) (q : Pq) : Bool := match glook q was with
  | some o => decide (timeF A n q.1 q.2 ≤ o)
  | none => false
def tot {κ κ' α : Type} (l : N2 κ κ' α) : Nat := (l.map fun p => p.2.2.length).sum
theorem nd_len {κ α : Type} [DecidableEq κ] {l K : List (κ × α)} (h : (l.map (·.1)).Nodup) (hs : ∀ x ∈ l, x ∈ K) : l.length ≤ K.length := by
  have := len_sub (l := l.map (·.1)) (m := K.map (·.1)) h fun k hk => by
    obtain ⟨x, hx, rfl⟩ := List.mem_map.1 hk
    exact List.mem_map_of_mem (hs x hx)
  simpa using this
/-- maps of maps gone over, what is old is deleted -/
structure GnI {κ κ' : Type} [DecidableEq κ] [DecidableEq κ'] (l lc : N2 κ κ' Int) (t : Int) (rest : List (κ × Value)) (cnt : Nat) : Prop where
  ok : okN2 lc
  lk : ∀ k k', look2 lc k k' = if k ∈ rest.map (·.1) then look2 l k k' else (look2 l k k').filter (fun u => decide (t < u))
  ptr : ∀ y ∈ rest, y ∈ lc.map (gval pI)
  rnd : (rest.map (·.1)).Nodup
  cnt : cnt + tot lc = tot l
section
variable {κ κ' : Type} [DecidableEq κ] [DecidableEq κ'] {l lc : N2 κ κ' Int} {t : Int} {rest A B2 : List (κ × Value)} {cnt m : Nat} {k : κ} {row row2 : List (κ' × Int)}
theorem GnI.start (hn : okN2 l) : GnI l l t (l.map (gval pI)) 0 := by
  refine ⟨hn, fun k k' => ?_, fun y h => h, by rw [keys_g]; exact hn.1, by omega⟩
  rw [keys_g]
  split
  · rfl
  · rename_i h
    have : glook k l = none := glook_none.2 fun p hp e => h (List.mem_map.2 ⟨p, hp, e⟩)
    unfold look2; rw [this]; rfl
theorem GnI.fin (h : GnI l lc t [] cnt) : ∀ k k', look2 lc k k' = (look2 l k k').filter (fun u => decide (t < u)) := fun k k' => by
  rw [h.lk, if_neg (by simp)]
theorem tot_mem : ∀ {l : N2 κ κ' Int}, glook k l = some (m, row) → row.length ≤ tot l
  | [], h => by
    have _ : DecidableEq κ' := inferInstance
    cases h
  | (p1, p2) :: l, h => by
    simp only [glook] at h
    unfold tot
    rw [List.map_cons, List.sum_cons]
    split at h
    · cases h; simp only []; omega
    · have := tot_mem h; unfold tot at this; omega
theorem tot_gset : ∀ {l : N2 κ κ' Int}, glook k l = some (m, row) → tot (gset k (m, row2) l) + row.length = tot l + row2.length
  | [], h => by
    have _ : DecidableEq κ' := inferInstance
    cases h
  | (p1, p2) :: l, h => by
    simp only [glook] at h
    simp only [gset]
    unfold tot
    split at h
    · rename_i e
      cases h
      rw [if_pos e, List.map_cons, List.sum_cons, List.map_cons, List.sum_cons]; simp only []; omega
    · rename_i e
      have := tot_gset h
      unfold tot at this
      rw [if_neg e, List.map_cons, List.sum_cons, List.map_cons, List.sum_cons]; omega
theorem tot_gdel : ∀ {l : N2 κ κ' Int}, (l.map (·.1)).Nodup → glook k l = some (m, row) → tot (gdel k l) + row.length = tot l
  | [], _, h => by
    have _ : DecidableEq κ' := inferInstance
    cases h
  | (p1, p2) :: l, hn, h => by
    rw [List.map_cons, List.nodup_cons] at hn
    simp only [glook] at h
    simp only [gdel]
    unfold tot
    split at h
    · rename_i e
      cases h
      rw [if_pos e, List.map_cons, List.sum_cons]; simp only []; omega
    · rename_i e
      have := tot_gdel hn.2 h
      unfold tot at this
      rw [if_neg e, List.map_cons, List.sum_cons, List.map_cons, List.sum_cons]; omega
theorem look2_gdel (hn : (lc.map (·.1)).Nodup) {q : κ} {q' : κ'} : look2 (gdel k lc) q q' = if q = k then none else look2 lc q q' := by
  unfold look2
  by_cases e : q = k
  · rw [if_pos e, show glook q (gdel k lc) = none from glook_none.2 fun p hp e2 => ((gdel_mem hn).1 hp).2 (e2.trans e)]; rfl
  · rw [if_neg e]
    congr 1
    cases h : glook q lc with
    | some v => exact mem_glook (hn.sublist (gdel_sub.map _)) ((gdel_mem hn).2 ⟨glook_mem h, e⟩)
    | none => exact glook_none.2 fun p hp => glook_none.1 h p ((gdel_mem hn).1 hp).1
theorem GnI.rowT (h : GnI l lc t rest cnt) (hg : glook k lc = some (m, row)) : cnt + row.length ≤ tot l := by
  have := tot_mem hg; have := h.cnt; omega
theorem GnI.midN (h : GnI l lc t (A ++ gval pI (k, (m, row)) :: B2) cnt) : k ∉ (A ++ B2).map (·.1) ∧ ((A ++ B2).map (·.1)).Nodup := by
  have hn := h.rnd
  rw [List.map_append, List.map_cons] at hn
  have hn2 := (List.perm_middle.nodup_iff).1 hn
  rw [List.nodup_cons, ← List.map_append] at hn2
  exact hn2
theorem row_filter (hr : (row.map (·.1)).Nodup) (hn2 : (row2.map (·.1)).Nodup) (hm2 : ∀ x, x ∈ row2 ↔ x ∈ row ∧ decide (x.2 ≤ t) = false) (k' : κ') : glook k' row2 = (glook k' row).filter (fun u => decide (t < u)) := by
  cases h : glook k' row2 with
  | some u =>
    obtain ⟨h1, h2⟩ := (hm2 (k', u)).1 (glook_mem h)
    rw [mem_glook hr h1]
    have : t < u := by have := of_decide_eq_false h2; simp only [] at this; omega
    simp [Option.filter, this]
  | none =>
    cases h1 : glook k' row with
    | none => rfl
    | some u =>
      have : ¬ t < u := fun hlt => by
        have := (hm2 (k', u)).2 ⟨glook_mem h1, decide_eq_false (by simp only []; omega)⟩
        rw [mem_glook hn2 this] at h; cases h
      simp [Option.filter, this]
theorem GnI.lk2 (h : GnI l lc t (A ++ gval pI (k, (m, row)) :: B2) cnt) (hg : glook k lc = some (m, row)) (hn2 : (row2.map (·.1)).Nodup) (hm2 : ∀ x, x ∈ row2 ↔ x ∈ row ∧ decide (x.2 ≤ t) = false) (q : κ) (q' : κ') :
    (if q = k then glook q' row2 else look2 lc q q') = if q ∈ (A ++ B2).map (·.1) then look2 l q q' else (look2 l q q').filter (fun u => decide (t < u)) := by
  by_cases e : q = k
  · subst e
    rw [if_pos rfl, if_neg h.midN.1, row_filter (h.ok.row hg) hn2 hm2]
    have h1 := h.lk q q'
    rw [if_pos (by simp)] at h1
    rw [← h1]
    unfold look2; rw [hg]; rfl
  · rw [if_neg e, h.lk]
    have : q ∈ (A ++ gval pI (k, (m, row)) :: B2).map (·.1) ↔ q ∈ (A ++ B2).map (·.1) := by
      rw [List.map_append, List.map_append, List.map_cons, List.mem_append, List.mem_append, List.mem_cons]
      constructor
      · rintro (h | h | h)
        · exact .inl h
        · exact absurd h e
        · exact .inr h
      · rintro (h | h)
        · exact .inl h
        · exact .inr (.inr h)
    by_cases h1 : q ∈ (A ++ B2).map (·.1)
    · rw [if_pos h1, if_pos (this.2 h1)]
    · rw [if_neg h1, if_neg (fun h2 => h1 (this.1 h2))]
theorem GnI.set (h : GnI l lc t (A ++ gval pI (k, (m, row)) :: B2) cnt) (hg : glook k lc = some (m, row)) (hn2 : (row2.map (·.1)).Nodup) (hm2 : ∀ x, x ∈ row2 ↔ x ∈ row ∧ decide (x.2 ≤ t) = false) : GnI l (gset k (m, row2) lc) t (A ++ B2) (cnt + row.length - row2.length) := by
  have hle := nd_len (K := row) hn2 fun x hx => ((hm2 x).1 hx).1
  refine ⟨h.ok.set hn2, fun q q' => ?_, fun y hy => ?_, h.midN.2, ?_⟩
  · rw [look2_gset]; exact h.lk2 hg hn2 hm2 q q'
  · rw [gset_pt hg]
    refine h.ptr y ?_
    rcases List.mem_append.1 hy with hy | hy
    · exact List.mem_append_left _ hy
    · exact List.mem_append_right _ (List.mem_cons_of_mem _ hy)
  · have := tot_gset (row2 := row2) hg; have := h.cnt; omega
theorem GnI.del (h : GnI l lc t (A ++ gval pI (k, (m, row)) :: B2) cnt) (hg : glook k lc = some (m, row)) (hn2 : (row2.map (·.1)).Nodup) (hm2 : ∀ x, x ∈ row2 ↔ x ∈ row ∧ decide (x.2 ≤ t) = false) (hz : row2 = []) : GnI l (gdel k lc) t (A ++ B2) (cnt + row.length - row2.length) := by
  refine ⟨⟨h.ok.1.sublist (gdel_sub.map _), fun p hp => h.ok.2 p ((gdel_mem h.ok.1).1 hp).1⟩, fun q q' => ?_, fun y hy => ?_, h.midN.2, ?_⟩
  · rw [look2_gdel h.ok.1]
    have := h.lk2 hg hn2 hm2 q q'
    rw [hz] at this
    exact this
  · have h1 := h.ptr y (by
      rcases List.mem_append.1 hy with hy | hy
      · exact List.mem_append_left _ hy
      · exact List.mem_append_right _ (List.mem_cons_of_mem _ hy))
    obtain ⟨z, hz2, rfl⟩ := List.mem_map.1 h1
    exact List.mem_map_of_mem ((gdel_mem h.ok.1).2 ⟨hz2, fun e => h.midN.1 (e ▸ List.mem_map_of_mem (f := (·.1)) hy)⟩)
  · subst hz
    have := tot_gdel h.ok.1 hg; have := h.cnt; simp only [List.length_nil]; omega
end
theorem c82 {b7 b2 f m7 : Nat} {f7 f2 : Nat × Nat} {was : List (Pq × Int)} {A : Gr} {n : Nn} {l : Ln} {cut last : Int} {rt vx : ByteArray} {u : Int} (hE : okA A) (w : World) (h7 : w.heap[b7]? = some (.cells #[.map (some m7)] 155 f7)) (h2 : w.heap[b2]? = some (.cells #[.pointer (some ⟨f, 0, none⟩)] 74 f2)) (hm : MpR TPq m7 (was.map (gval I)) w) (hF : FoR w f A n l cut last) : CC Tryz.prog 82 [.agg #[S rt, S vx], I u, .pointer (some ⟨b7, 0, none⟩), .pointer (some ⟨b2, 0, none⟩)].toArray w (fun r w' => r = .bool (metP was A n (rt, vx)) ∧ Ext w w') := by
  obtain ⟨w0, e0⟩ : ∃ w0, w0 = w := ⟨w, rfl⟩
  subst e0
  have H := Hd.start w0
  refine CC.of (N := 23) Tryz.func82 rfl rfl rfl ?_
  refine WC.seq ?_
  refine WC.region ?_
  refine l_st rfl (s_box (by conv => lhs; whnf) H fun b4 w H => ?_)
  refine l_rd rfl rfl (x_assign ev_c) ?_
  refine WL.nil ?_
  refine WC.seq ?_
  cases ho : glook (rt, vx) was
  ·
    refine WC.region ?_
    refine l_rd rfl rfl (x_load Tryz.underlying155 rfl rfl (cell_ofL ((H.old 1 rfl) _ _ h7) rfl)) ?_
    refine l_rd rfl rfl (x_loadF (vs := [_, _]) Tryz.underlying160 rfl ty160 rfl rfl (H.cellsL 0 rfl rfl)) ?_
    refine l_rd rfl rfl (x_lookR TPq Tryz.underlying155 ty3 rfl rfl (hm.old (H.old 1 rfl)) (show _ = Value.tuple #[I 0, .bool false] by rw [alook_g, ho]; rfl)) ?_
    refine l_rd rfl rfl (x_move (by conv => lhs; whnf)) ?_
    refine l_rd rfl rfl (x_extract rfl rfl) ?_
    refine l_rd rfl rfl (x_extract rfl rfl) ?_
    refine l_rd rfl rfl (x_assign (by conv => lhs; whnf)) ?_
    refine l_rd rfl rfl (x_assign (by conv => lhs; whnf)) ?_
    refine WL.nil ?_
    refine WC.seq ?_
    refine WC.region ?_
    refine l_rd rfl rfl (x_move (by conv => lhs; whnf)) ?_
    refine l_rd rfl rfl (x_move (by conv => lhs; whnf)) ?_
    refine l_gn (wantN rfl rfl rfl) rfl ?_
    refine l_gn (wantN rfl rfl rfl) rfl ?_
    refine l_gn (wantN rfl rfl rfl) rfl ?_
    refine l_gn (wantN rfl rfl rfl) rfl ?_
    refine l_gn (wantN rfl rfl rfl) rfl ?_
    refine l_rd rfl rfl (x_pick0 rfl ev_c) ?_
    refine l_rd rfl rfl (x_assign (by conv => lhs; whnf)) ?_
    refine WL.nil ?_
    refine WC.ret ?_
    refine atRet ?_
    exact RetM.one rfl (by (conv => lhs; whnf); try rfl) (⟨by simp [metP, ho], H.below 1 rfl⟩)
  ·
    rename_i o9
    refine WC.region ?_
    refine l_rd rfl rfl (x_load Tryz.underlying155 rfl rfl (cell_ofL ((H.old 1 rfl) _ _ h7) rfl)) ?_
    refine l_rd rfl rfl (x_loadF (vs := [_, _]) Tryz.underlying160 rfl ty160 rfl rfl (H.cellsL 0 rfl rfl)) ?_
    refine l_rd rfl rfl (x_lookR TPq Tryz.underlying155 ty3 rfl rfl (hm.old (H.old 1 rfl)) (show _ = Value.tuple #[I o9, .bool true] by rw [alook_g, ho]; rfl)) ?_
    refine l_rd rfl rfl (x_move (by conv => lhs; whnf)) ?_
    refine l_rd rfl rfl (x_extract rfl rfl) ?_
    refine l_rd rfl rfl (x_extract rfl rfl) ?_
    refine l_rd rfl rfl (x_assign (by conv => lhs; whnf)) ?_
    refine l_rd rfl rfl (x_assign (by conv => lhs; whnf)) ?_
    refine WL.nil ?_
    refine WC.seq ?_
    refine WC.region ?_
    refine l_rd rfl rfl (x_move (by conv => lhs; whnf)) ?_
    refine l_rd rfl rfl (x_move (by conv => lhs; whnf)) ?_
    refine l_gy (wantY rfl rfl rfl) rfl rfl (x_move (by conv => lhs; whnf)) ?_
    refine l_gy (wantY rfl rfl rfl) rfl rfl (x_load Tryz.underlying74 rfl rfl (cell_ofL ((H.old 1 rfl) _ _ h2) rfl)) ?_
    refine l_gy (wantY rfl rfl rfl) rfl rfl (x_loadF (vs := [_, _]) Tryz.underlying160 rfl ty160 rfl rfl (H.cellsL 0 rfl rfl)) ?_
    refine l_gst (wantY rfl rfl rfl) rfl (s_callL cal79 (c79 hE _ (hF.old (H.old 1 rfl))) ?_)
    rintro _ w ⟨rfl, e1⟩
    have H := H.ext e1
    refine l_gyD (wantY rfl rfl rfl) rfl rfl (x_geq rfl rfl) (fun h21 => ?_) (fun h21 => ?_)
    ·
      refine l_rd rfl rfl (x_pick1 rfl (by conv => lhs; whnf)) ?_
      refine l_rd rfl rfl (x_assign (by conv => lhs; whnf)) ?_
      refine WL.nil ?_
      refine WC.ret ?_
      refine atRet ?_
      exact RetM.one rfl (by (conv => lhs; whnf); try rfl) (⟨by simp [metP, ho, h21], H.below 1 rfl⟩)
    ·
      refine l_rd rfl rfl (x_pick1 rfl (by conv => lhs; whnf)) ?_
      refine l_rd rfl rfl (x_assign (by conv => lhs; whnf)) ?_
      refine WL.nil ?_
      refine WC.ret ?_
      refine atRet ?_
      exact RetM.one rfl (by (conv => lhs; whnf); try rfl) (⟨by simp [metP, ho, h21], H.below 1 rfl⟩)
theorem c141 {b3 : Nat} {f3 : Nat × Nat} {t u : Int} {kk : Lk} (w : World) (h3 : w.heap[b3]? = some (.cells #[I t] 3 f3)) : CC Tryz.prog 141 [.agg #[S kk.1, S kk.2], I u, .pointer (some ⟨b3, 0, none⟩)].toArray w (fun r w' => r = .bool (decide (u ≤ t)) ∧ Ext w w') := by
  obtain ⟨w0, e0⟩ : ∃ w0, w0 = w := ⟨w, rfl⟩
  subst e0
  have H := Hd.start w0
  refine CC.of (N := 9) Tryz.func141 rfl rfl rfl ?_
  refine WC.seq ?_
  refine WC.region ?_
  refine l_st rfl (s_box (by conv => lhs; whnf) H fun b3 w H => ?_)
  refine l_rd rfl rfl (x_assign ev_c) ?_
  refine WL.nil ?_
  refine WC.seq ?_
  refine WC.region ?_
  refine l_rd rfl rfl (x_move (by conv => lhs; whnf)) ?_
  refine l_rd rfl rfl (x_load Tryz.underlying3 rfl rfl (cell_ofL ((H.old 1 rfl) _ _ h3) rfl)) ?_
  refine l_rdD rfl rfl (x_leq rfl rfl) (fun h8 => ?_) (fun h8 => ?_)
  ·
    refine l_rd rfl rfl (x_assign (by conv => lhs; whnf)) ?_
    refine WL.nil ?_
    refine WC.ret ?_
    refine atRet ?_
    exact RetM.one rfl (by (conv => lhs; whnf); try rfl) (⟨by simp [h8], H.below 1 rfl⟩)
  ·
    refine l_rd rfl rfl (x_assign (by conv => lhs; whnf)) ?_
    refine WL.nil ?_
    refine WC.ret ?_
    refine atRet ?_
    exact RetM.one rfl (by (conv => lhs; whnf); try rfl) (⟨by simp [h8], H.below 1 rfl⟩)
theorem c142 {b3 : Nat} {f3 : Nat × Nat} {t u : Int} {kk : ByteArray} (w : World) (h3 : w.heap[b3]? = some (.cells #[I t] 3 f3)) : CC Tryz.prog 142 [S kk, I u, .pointer (some ⟨b3, 0, none⟩)].toArray w (fun r w' => r = .bool (decide (u ≤ t)) ∧ Ext w w') := by
  obtain ⟨w0, e0⟩ : ∃ w0, w0 = w := ⟨w, rfl⟩
  subst e0
  have H := Hd.start w0
  refine CC.of (N := 9) Tryz.func142 rfl rfl rfl ?_
  refine WC.seq ?_
  refine WC.region ?_
  refine l_rd rfl rfl (x_assign ev_c) ?_
  refine WL.nil ?_
  refine WC.seq ?_
  refine WC.region ?_
  refine l_rd rfl rfl (x_move (by conv => lhs; whnf)) ?_
  refine l_rd rfl rfl (x_load Tryz.underlying3 rfl rfl (cell_ofL ((H.old 0 rfl) _ _ h3) rfl)) ?_
  refine l_rdD rfl rfl (x_leq rfl rfl) (fun h8 => ?_) (fun h8 => ?_)
  ·
    refine l_rd rfl rfl (x_assign (by conv => lhs; whnf)) ?_
    refine WL.nil ?_
    refine WC.ret ?_
    refine atRet ?_
    exact RetM.one rfl (by (conv => lhs; whnf); try rfl) (⟨by simp [h8], H.below 0 rfl⟩)
  ·
    refine l_rd rfl rfl (x_assign (by conv => lhs; whnf)) ?_
    refine WL.nil ?_
    refine WC.ret ?_
    refine atRet ?_
    exact RetM.one rfl (by (conv => lhs; whnf); try rfl) (⟨by simp [h8], H.below 0 rfl⟩)
theorem c73 {s : Sy} [NoEx s] {L : List Hp} {mm : Nat} {l : N2 ByteArray Lk Int} {t : Int} (w : World) (hn : okN2 l) (htot : tot l ≤ 10000000) (H : Hd s w (Mp TS mm (l.map (gval pI)) :: IM TLk I l :: L)) : CC Tryz.prog 73 [.map (some mm), I t].toArray w (fun r w' => ∃ (l' : N2 ByteArray Lk Int) (cnt : Nat), r = I cnt ∧ okN2 l' ∧ (∀ k k', look2 l' k k' = (look2 l k k').filter (fun u => decide (t < u))) ∧ cnt + tot l' = tot l ∧ Hd s w' (Mp TS mm (l'.map (gval pI)) :: IM TLk I l' :: L)) := by
  refine CC.of (N := 31) Tryz.func73 rfl rfl rfl ?_
  refine WC.seq ?_
  refine WC.region ?_
  refine l_st rfl (s_box (by conv => lhs; whnf) H fun b3 w H => ?_)
  refine l_rd rfl rfl (x_assign ev_c) ?_
  refine WL.nil ?_
  refine WC.seq ?_
  refine WC.seq ?_
  refine WC.region ?_
  refine l_rd rfl rfl (x_move (by conv => lhs; whnf)) ?_
  refine l_st rfl (s_rangeM TS Tryz.underlying141 1 rfl rfl H (fun bi w H => ?_))
  refine WL.nil ?_
  refine WC.block ?_
  refine WC.loopN (I := fun N9 ρ w => ∃ (lc : N2 ByteArray Lk Int) (rest : List (ByteArray × Value)) (cnt : Nat), N9 = rest.length ∧ GnI l lc t rest cnt ∧ ρ 0 = .map (some mm) ∧ ρ 4 = I cnt ∧ ρ 3 = .pointer (some ⟨b3, 0, none⟩) ∧ ρ 8 = .pointer (some ⟨bi, 0, none⟩) ∧ Hd s w (MR TS mm bi (lc.map (gval pI)) none rest :: IM TLk I lc :: pt b3 (.cells #[I t] 3 (0, 0)) :: L)) (n0 := _) (⟨l, _, 0, rfl, GnI.start hn, rfl, rfl, rfl, rfl, Hd.arrT [_, _, _] [0, 2, 1] (by decide) rfl H⟩) ?_
  repeat clear H
  rintro N9 ρ w ⟨lc, rest, cnt, hN, hG, h0, h4, h3, h8, H⟩
  have hct := hG.cnt
  refine WC.seq ?_
  refine WC.region ?_
  refine l_st rfl (s_nextM TS 0 rfl h8 H (fun p A B2 w hsp H => ?_) (fun hnil => ?_))
  ·
    subst hsp
    obtain ⟨⟨k, m, row⟩, hx, rfl⟩ := List.mem_map.1 (hG.ptr p (by simp))
    have hgl := mem_glook hG.ok.1 hx
    have hrt := hG.rowT hgl
    refine l_rd rfl rfl (x_extract rfl rfl) ?_
    refine WL.nil ?_
    refine WC.seq ?_
    refine WC.cond1 rfl ?_
    refine WC.skip ?_
    refine WC.block ?_
    refine WC.seq ?_
    refine WC.region ?_
    refine l_rd rfl rfl (x_entry TS H 0 rfl h8) ?_
    refine l_rd rfl rfl (x_extract rfl rfl) ?_
    refine l_rd rfl rfl (x_extract rfl rfl) ?_
    refine l_rd rfl rfl (x_assign (by conv => lhs; whnf)) ?_
    refine l_rd rfl rfl (x_assign (by conv => lhs; whnf)) ?_
    refine WL.nil ?_
    refine WC.seq ?_
    obtain ⟨rst, H, hcl, hdl⟩ := IM.focus hgl (Hd.arrT [_, _, _] [1, 0, 2] (by decide) rfl H)
    refine WC.region ?_
    refine l_rd rfl rfl (x_move h4) ?_
    refine l_rd rfl rfl (x_move (by conv => lhs; whnf)) ?_
    refine l_rd rfl rfl (x_lenMpG TLk Tryz.underlying154 rfl rfl H 0 rfl) ?_
    refine l_rd rfl rfl (x_addN (a := cnt) (b := row.length) rfl rfl (by omega)) ?_
    refine l_rd rfl rfl (x_assign (by conv => lhs; whnf)) ?_
    refine WL.nil ?_
    refine WC.seq ?_
    refine WC.region ?_
    refine l_rd rfl rfl (x_move (by conv => lhs; whnf)) ?_
    refine l_rd rfl rfl (x_makeFuncE (vs := []) rfl (ev_cons h3 rfl)) ?_
    refine l_st rfl (s_callL cal140 (c140 (A := pt b3 (.cells #[I t] 3 (0, 0))) (p := fun q => decide (q.2 ≤ t)) (caps := [.pointer (some ⟨b3, 0, none⟩)]) _ (hG.ok.row hgl) cal141 (fun x hx w1 L1 H1 => c141 _ (H1.obj 0 rfl)) (Hd.arrT [_, _, _, _] [0, 3, 1, 2] (by decide) rfl H)) ?_)
    rintro _ w ⟨rfl, row2, hn2, hm2, H⟩
    have hle2 := nd_len (K := row) hn2 fun x hx => ((hm2 x).1 hx).1
    refine WL.nil ?_
    refine WC.seq ?_
    refine WC.region ?_
    refine l_rd rfl rfl (x_move (by conv => lhs; whnf)) ?_
    refine l_rd rfl rfl (x_move (by conv => lhs; whnf)) ?_
    refine l_rd rfl rfl (x_lenMpG TLk Tryz.underlying154 rfl rfl H 0 rfl) ?_
    refine l_rd rfl rfl (x_subN (a := (cnt + row.length)) (b := row2.length) rfl rfl (by omega) (by omega)) ?_
    refine l_rd rfl rfl (x_assign (by conv => lhs; whnf)) ?_
    refine WL.nil ?_
    refine WC.seq ?_
    refine WC.region ?_
    refine l_rd rfl rfl (x_move (by conv => lhs; whnf)) ?_
    refine l_rd rfl rfl (x_lenMpG TLk Tryz.underlying154 rfl rfl H 0 rfl) ?_
    refine l_rdD rfl rfl (x_eql rfl rfl) (fun h27 => ?_) (fun h27 => ?_)
    ·
      have hz : row2 = [] := List.eq_nil_of_length_eq_zero (by omega)
      refine WL.nil ?_
      refine WC.cond1 rfl ?_
      refine WC.region ?_
      refine l_rd rfl rfl (x_move h0) ?_
      refine l_rd rfl rfl (x_move (by conv => lhs; whnf)) ?_
      refine l_no (s_deleteM TS Tryz.underlying141 rfl 3 rfl (by rw [keys_g]; exact hG.ok.1) rfl rfl H (fun w H => ?_))
      rw [show adel (gval pI (k, (m, row))).1 (lc.map (gval pI)) = (gdel k lc).map (gval pI) from adel_g pI _ _] at H
      refine WL.nil ?_
      have H := hdl _ _ (Hd.arrT [_, _, _, _] [2, 0, 1, 3] (by decide) rfl H)
      exact ⟨rfl, (A ++ B2).length, by rw [hN]; simp, gdel k lc, A ++ B2, _, rfl, hG.del hgl hn2 hm2 hz, h0, rfl, h3, h8, Hd.arrT [_, _, _, _] [3, 0, 2] (by decide) rfl H⟩
    ·
      refine WL.nil ?_
      refine WC.cond0 rfl ?_
      refine WC.skip ?_
      have H := hcl _ _ _ (Hd.arrT [_, _, _, _] [0, 2, 1, 3] (by decide) rfl H)
      exact ⟨rfl, (A ++ B2).length, by rw [hN]; simp, gset k (m, row2) lc, A ++ B2, _, rfl, hG.set hgl hn2 hm2, h0, rfl, h3, h8, by rw [gset_pt hgl]; exact MR.rest (Hd.arrT [_, _, _] [2, 0, 1] (by decide) rfl H)⟩
  ·
    subst hnil
    refine l_rd rfl rfl (x_extract rfl rfl) ?_
    refine WL.nil ?_
    refine WC.seq ?_
    refine WC.cond0 rfl ?_
    refine WC.exit ?_
    refine WC.seq ?_
    refine WC.region ?_
    refine l_rd rfl rfl (x_move h4) ?_
    refine l_rd rfl rfl (x_assign (by conv => lhs; whnf)) ?_
    refine WL.nil ?_
    refine WC.ret ?_
    refine atRet ?_
    exact RetM.one rfl (by (conv => lhs; whnf); try rfl) (⟨lc, cnt, rfl, hG.ok, hG.fin, hct, MR.map (Hd.arrT [_, _, _] [0, 1] (by decide) rfl H)⟩)
theorem c74 {s : Sy} [NoEx s] {L : List Hp} {mm : Nat} {l : N2 Spot ByteArray Int} {t : Int} (w : World) (hn : okN2 l) (htot : tot l ≤ 10000000) (H : Hd s w (Mp TSp mm (l.map (gval pI)) :: IM TS I l :: L)) : CC Tryz.prog 74 [.map (some mm), I t].toArray w (fun r w' => ∃ (l' : N2 Spot ByteArray Int) (cnt : Nat), r = I cnt ∧ okN2 l' ∧ (∀ k k', look2 l' k k' = (look2 l k k').filter (fun u => decide (t < u))) ∧ cnt + tot l' = tot l ∧ Hd s w' (Mp TSp mm (l'.map (gval pI)) :: IM TS I l' :: L)) := by
  refine CC.of (N := 31) Tryz.func74 rfl rfl rfl ?_
  refine WC.seq ?_
  refine WC.region ?_
  refine l_st rfl (s_box (by conv => lhs; whnf) H fun b3 w H => ?_)
  refine l_rd rfl rfl (x_assign ev_c) ?_
  refine WL.nil ?_
  refine WC.seq ?_
  refine WC.seq ?_
  refine WC.region ?_
  refine l_rd rfl rfl (x_move (by conv => lhs; whnf)) ?_
  refine l_st rfl (s_rangeM TSp Tryz.underlying140 1 rfl rfl H (fun bi w H => ?_))
  refine WL.nil ?_
  refine WC.block ?_
  refine WC.loopN (I := fun N9 ρ w => ∃ (lc : N2 Spot ByteArray Int) (rest : List (Spot × Value)) (cnt : Nat), N9 = rest.length ∧ GnI l lc t rest cnt ∧ ρ 0 = .map (some mm) ∧ ρ 4 = I cnt ∧ ρ 3 = .pointer (some ⟨b3, 0, none⟩) ∧ ρ 8 = .pointer (some ⟨bi, 0, none⟩) ∧ Hd s w (MR TSp mm bi (lc.map (gval pI)) none rest :: IM TS I lc :: pt b3 (.cells #[I t] 3 (0, 0)) :: L)) (n0 := _) (⟨l, _, 0, rfl, GnI.start hn, rfl, rfl, rfl, rfl, Hd.arrT [_, _, _] [0, 2, 1] (by decide) rfl H⟩) ?_
  repeat clear H
  rintro N9 ρ w ⟨lc, rest, cnt, hN, hG, h0, h4, h3, h8, H⟩
  have hct := hG.cnt
  refine WC.seq ?_
  refine WC.region ?_
  refine l_st rfl (s_nextM TSp 0 rfl h8 H (fun p A B2 w hsp H => ?_) (fun hnil => ?_))
  ·
    subst hsp
    obtain ⟨⟨k, m, row⟩, hx, rfl⟩ := List.mem_map.1 (hG.ptr p (by simp))
    have hgl := mem_glook hG.ok.1 hx
    have hrt := hG.rowT hgl
    refine l_rd rfl rfl (x_extract rfl rfl) ?_
    refine WL.nil ?_
    refine WC.seq ?_
    refine WC.cond1 rfl ?_
    refine WC.skip ?_
    refine WC.block ?_
    refine WC.seq ?_
    refine WC.region ?_
    refine l_rd rfl rfl (x_entry TSp H 0 rfl h8) ?_
    refine l_rd rfl rfl (x_extract rfl rfl) ?_
    refine l_rd rfl rfl (x_extract rfl rfl) ?_
    refine l_st rfl (s_alloc ty151 H fun b5 w H => ?_)
    refine l_no (s_stA 0 rfl ty151 rfl (by conv => lhs; whnf) rfl rfl rfl H fun w H => ?_)
    refine l_rd rfl rfl (x_assign (by conv => lhs; whnf)) ?_
    refine WL.nil ?_
    refine WC.seq ?_
    obtain ⟨rst, H, hcl, hdl⟩ := IM.focus hgl (Hd.arrT [_, _, _, _] [2, 0, 1, 3] (by decide) rfl H)
    refine WC.region ?_
    refine l_rd rfl rfl (x_move h4) ?_
    refine l_rd rfl rfl (x_move (by conv => lhs; whnf)) ?_
    refine l_rd rfl rfl (x_lenMpG TS Tryz.underlying77 rfl rfl H 0 rfl) ?_
    refine l_rd rfl rfl (x_addN (a := cnt) (b := row.length) rfl rfl (by omega)) ?_
    refine l_rd rfl rfl (x_assign (by conv => lhs; whnf)) ?_
    refine WL.nil ?_
    refine WC.seq ?_
    refine WC.region ?_
    refine l_rd rfl rfl (x_move (by conv => lhs; whnf)) ?_
    refine l_rd rfl rfl (x_makeFuncE (vs := []) rfl (ev_cons h3 rfl)) ?_
    refine l_st rfl (s_callL cal75 (c75 (A := pt b3 (.cells #[I t] 3 (0, 0))) (p := fun q => decide (q.2 ≤ t)) (caps := [.pointer (some ⟨b3, 0, none⟩)]) _ (hG.ok.row hgl) cal142 (fun x hx w1 L1 H1 => c142 _ (H1.obj 0 rfl)) (Hd.arrT [_, _, _, _, _] [0, 4, 1, 2, 3] (by decide) rfl H)) ?_)
    rintro _ w ⟨rfl, row2, hn2, hm2, H⟩
    have hle2 := nd_len (K := row) hn2 fun x hx => ((hm2 x).1 hx).1
    refine WL.nil ?_
    refine WC.seq ?_
    refine WC.region ?_
    refine l_rd rfl rfl (x_move (by conv => lhs; whnf)) ?_
    refine l_rd rfl rfl (x_move (by conv => lhs; whnf)) ?_
    refine l_rd rfl rfl (x_lenMpG TS Tryz.underlying77 rfl rfl H 0 rfl) ?_
    refine l_rd rfl rfl (x_subN (a := (cnt + row.length)) (b := row2.length) rfl rfl (by omega) (by omega)) ?_
    refine l_rd rfl rfl (x_assign (by conv => lhs; whnf)) ?_
    refine WL.nil ?_
    refine WC.seq ?_
    refine WC.region ?_
    refine l_rd rfl rfl (x_move (by conv => lhs; whnf)) ?_
    refine l_rd rfl rfl (x_lenMpG TS Tryz.underlying77 rfl rfl H 0 rfl) ?_
    refine l_rdD rfl rfl (x_eql rfl rfl) (fun h27 => ?_) (fun h27 => ?_)
    ·
      have hz : row2 = [] := List.eq_nil_of_length_eq_zero (by omega)
      refine WL.nil ?_
      refine WC.cond1 rfl ?_
      refine WC.region ?_
      refine l_rd rfl rfl (x_move h0) ?_
      refine l_rd rfl rfl (x_loadF (vs := [_, _]) Tryz.underlying151 rfl ty151 rfl rfl (H.cellsL 3 rfl rfl)) ?_
      refine l_no (s_deleteM TSp Tryz.underlying140 rfl 4 rfl (by rw [keys_g]; exact hG.ok.1) rfl rfl H (fun w H => ?_))
      rw [show adel (gval pI (k, (m, row))).1 (lc.map (gval pI)) = (gdel k lc).map (gval pI) from adel_g pI _ _] at H
      refine WL.nil ?_
      have H := hdl _ _ (Hd.arrT [_, _, _, _, _] [2, 0, 1, 3, 4] (by decide) rfl H)
      exact ⟨rfl, (A ++ B2).length, by rw [hN]; simp, gdel k lc, A ++ B2, _, rfl, hG.del hgl hn2 hm2 hz, h0, rfl, h3, h8, Hd.arrT [_, _, _, _, _] [4, 0, 2] (by decide) rfl H⟩
    ·
      refine WL.nil ?_
      refine WC.cond0 rfl ?_
      refine WC.skip ?_
      have H := hcl _ _ _ (Hd.arrT [_, _, _, _, _] [0, 2, 1, 3, 4] (by decide) rfl H)
      exact ⟨rfl, (A ++ B2).length, by rw [hN]; simp, gset k (m, row2) lc, A ++ B2, _, rfl, hG.set hgl hn2 hm2, h0, rfl, h3, h8, by rw [gset_pt hgl]; exact MR.rest (Hd.arrT [_, _, _, _] [3, 0, 1] (by decide) rfl H)⟩
  ·
    subst hnil
    refine l_rd rfl rfl (x_extract rfl rfl) ?_
    refine WL.nil ?_
    refine WC.seq ?_
    refine WC.cond0 rfl ?_
    refine WC.exit ?_
    refine WC.seq ?_
    refine WC.region ?_
    refine l_rd rfl rfl (x_move h4) ?_
    refine l_rd rfl rfl (x_assign (by conv => lhs; whnf)) ?_
    refine WL.nil ?_
    refine WC.ret ?_
    refine atRet ?_
    exact RetM.one rfl (by (conv => lhs; whnf); try rfl) (⟨lc, cnt, rfl, hG.ok, hG.fin, hct, MR.map (Hd.arrT [_, _, _] [0, 1] (by decide) rfl H)⟩)
theorem cal84 : Cal Tryz.prog 84 := ⟨_, Tryz.func84, rfl, by decide⟩
abbrev ePq : Pq → List Value → Hp := fun x vs => fun _ => vs = [.agg #[S x.1, S x.2]]
/-- the pairs that are held -/
structure TkF (A : Gr) (n : Nn) (al : List (Pq × Int)) : Prop where
  nd : (al.map (·.1)).Nodup
  iff : ∀ p, (glook p al).isSome = true ↔ ∃ s t, takesA A s = true ∧ nodT n p.1 p.2 s = some t
structure TkI (A : Gr) (n : Nn) (q : Spot) (rest2 : List (ByteArray × Value)) (al : List (Pq × Int)) (rest : List (Spot × Value)) : Prop where
  nd : (al.map (·.1)).Nodup
  snd : ∀ p, (glook p al).isSome = true → ∃ s t, takesA A s = true ∧ nodT n p.1 p.2 s = some t
  all : ∀ r v s t, nodT n r v s = some t → takesA A s = true → (v, s) ∈ rest.map (·.1) ∨ (glook (r, v) al).isSome = true ∨ (q = (v, s) ∧ r ∈ rest2.map (·.1))
  ptr : ∀ y ∈ rest, y ∈ n.map (gval pI)
  ptr2 : ∀ {m row}, glook q n = some (m, row) → ∀ y ∈ rest2, y ∈ row.map (gval I)
theorem TkI.start {A : Gr} {n : Nn} {q : Spot} : TkI A n q [] [] (n.map (gval pI)) := by
  refine ⟨List.nodup_nil, fun p h => (by cases h), fun r v s t h _ => .inl ?_, fun y h => h, fun _ y h => (by cases h)⟩
  rw [keys_g]
  unfold nodT look2 at h
  cases hg : glook (v, s) n with
  | none => rw [hg] at h; cases h
  | some p => exact List.mem_map.2 ⟨_, glook_mem hg, rfl⟩
theorem TkI.fin {A : Gr} {n : Nn} {q : Spot} {al : List (Pq × Int)} (h : TkI A n q [] al []) : TkF A n al :=
  ⟨h.nd, fun p => ⟨h.snd p, fun ⟨s, t, h1, h2⟩ => by
    rcases h.all p.1 p.2 s t h2 h1 with h3 | h3 | ⟨_, h3⟩
    · cases h3
    · exact h3
    · cases h3⟩⟩
theorem TkI.inner {A : Gr} {n : Nn} {q : Spot} {al : List (Pq × Int)} {A9 B9 : List (Spot × Value)} {v9 : ByteArray} {s9 m9 : Nat} {row : List (ByteArray × Int)} (h : TkI A n q [] al (A9 ++ gval pI ((v9, s9), (m9, row)) :: B9)) (hg : glook (v9, s9) n = some (m9, row)) : TkI A n (v9, s9) (row.map (gval I)) al (A9 ++ B9) := by
  refine ⟨h.nd, h.snd, fun r v s t h1 h2 => ?_, fun y hy => h.ptr y ?_, fun hg2 y hy => ?_⟩
  · rcases h.all r v s t h1 h2 with h3 | h3 | ⟨_, h3⟩
    · by_cases e : (v, s) = (v9, s9)
      · cases e
        refine .inr (.inr ⟨rfl, ?_⟩)
        rw [keys_g]
        unfold nodT look2 at h1
        rw [hg] at h1
        exact List.mem_map.2 ⟨_, glook_mem (show glook r row = some t from h1), rfl⟩
      · refine .inl ?_
        rw [List.map_append, List.mem_append, List.map_cons, List.mem_cons] at h3
        rw [List.map_append, List.mem_append]
        rcases h3 with h3 | h3 | h3
        · exact .inl h3
        · exact absurd h3 e
        · exact .inr h3
    · exact .inr (.inl h3)
    · cases h3
  · rcases List.mem_append.1 hy with hy | hy
    · exact List.mem_append_left _ hy
    · exact List.mem_append_right _ (List.mem_cons_of_mem _ hy)
  · rw [hg] at hg2; cases hg2; exact hy
theorem TkI.step {A : Gr} {n : Nn} {al al' : List (Pq × Int)} {rest : List (Spot × Value)} {A8 B8 : List (ByteArray × Value)} {v9 r9 : ByteArray} {s9 : Nat} {τ9 : Int} (h : TkI A n (v9, s9) (A8 ++ gval I (r9, τ9) :: B8) al rest) (hnd : (al'.map (·.1)).Nodup)
    (hs : ∀ p, (glook p al').isSome = true → (glook p al).isSome = true ∨ (takesA A s9 = true ∧ p = (r9, v9) ∧ ∃ t, nodT n r9 v9 s9 = some t)) (ha : ∀ p, (glook p al).isSome = true → (glook p al').isSome = true) (hn : takesA A s9 = true → (glook (r9, v9) al').isSome = true) : TkI A n (v9, s9) (A8 ++ B8) al' rest := by
  refine ⟨hnd, fun p hp => ?_, fun r v s t h1 h2 => ?_, h.ptr, fun hg y hy => h.ptr2 hg y ?_⟩
  · rcases hs p hp with h1 | ⟨h1, rfl, t, h2⟩
    · exact h.snd p h1
    · exact ⟨s9, t, h1, h2⟩
  · rcases h.all r v s t h1 h2 with h3 | h3 | ⟨e, h3⟩
    · exact .inl h3
    · exact .inr (.inl (ha _ h3))
    · cases e
      rw [List.map_append, List.mem_append, List.map_cons, List.mem_cons] at h3
      rcases h3 with h3 | h3 | h3
      · exact .inr (.inr ⟨rfl, by rw [List.map_append, List.mem_append]; exact .inl h3⟩)
      · have h3 : r = r9 := h3
        subst h3; exact .inr (.inl (hn h2))
      · exact .inr (.inr ⟨rfl, by rw [List.map_append, List.mem_append]; exact .inr h3⟩)
  · rcases List.mem_append.1 hy with hy | hy
    · exact List.mem_append_left _ hy
    · exact List.mem_append_right _ (List.mem_cons_of_mem _ hy)
theorem TkI.no {A : Gr} {n : Nn} {al : List (Pq × Int)} {rest : List (Spot × Value)} {A8 B8 : List (ByteArray × Value)} {v9 r9 : ByteArray} {s9 : Nat} {τ9 : Int} (h : TkI A n (v9, s9) (A8 ++ gval I (r9, τ9) :: B8) al rest) (ht : takesA A s9 = false) : TkI A n (v9, s9) (A8 ++ B8) al rest :=
  h.step h.nd (fun p hp => .inl hp) (fun p hp => hp) (fun h2 => by rw [ht] at h2; cases h2)
theorem TkI.yes {A : Gr} {n : Nn} {al : List (Pq × Int)} {rest : List (Spot × Value)} {A8 B8 : List (ByteArray × Value)} {v9 r9 : ByteArray} {s9 m9 : Nat} {τ9 : Int} {row : List (ByteArray × Int)} (h : TkI A n (v9, s9) (A8 ++ gval I (r9, τ9) :: B8) al rest) (hg : glook (v9, s9) n = some (m9, row)) (ht : takesA A s9 = true) (hok : okN2 n) (hx : (r9, τ9) ∈ row) : TkI A n (v9, s9) (A8 ++ B8) (gset (r9, v9) 1 al) rest := by
  refine h.step (gset_nodup h.nd) (fun p hp => ?_) (fun p hp => ?_) (fun _ => by rw [glook_gset, if_pos rfl]; rfl)
  · rw [glook_gset] at hp
    split at hp
    · rename_i e
      refine .inr ⟨ht, e, τ9, ?_⟩
      unfold nodT look2
      rw [hg]; exact mem_glook (hok.row hg) hx
    · exact .inl hp
  · rw [glook_gset]; split
    · rfl
    · exact hp
theorem it152 {s : Sy} [NoEx s] {b1 m : Nat} {row : List (Pq × Int)} : ITa Tryz.prog s 152 [.pointer (some ⟨b1, 0, none⟩)] ePq (okX (row.map (·.1))) (finX (row.map (·.1))) (star (pt b1 (.cells #[.map (some m)] 155 (0, 0))) (Mp TPq m (row.map (gval I)))) (fun _ => star (pt b1 (.cells #[.map (some m)] 155 (0, 0))) (Mp TPq m (row.map (gval I)))) := by
  intro l J X w L hy H
  have H := Hd.unstarAt [_] H
  refine CC.of (N := 14) Tryz.func152 rfl rfl rfl ?_
  refine WC.seq ?_
  refine WC.region ?_
  refine l_rd rfl rfl (x_load Tryz.underlying155 rfl rfl (H.cellL 1 rfl rfl)) ?_
  refine l_st rfl (s_rangeM TPq Tryz.underlying155 2 rfl rfl H (fun bi w H => ?_))
  refine WL.nil ?_
  refine WC.block ?_
  refine WC.loopN (I := fun N9 ρ w => ∃ (pre : List Pq) (rest : List (Pq × Value)), N9 = rest.length ∧ (pre ++ rest.map (·.1)).Perm (row.map (·.1)) ∧ ρ 0 = .func (.yield l) #[] #[] ∧ ρ 5 = .pointer (some ⟨bi, 0, none⟩) ∧ Hd s w (J pre :: MR TPq m bi (row.map (gval I)) none rest :: pt b1 (.cells #[.map (some m)] 155 (0, 0)) :: L)) (n0 := _) (⟨[], _, rfl, by rw [List.nil_append, keys_g], rfl, rfl, Hd.arrT [_, _, _] [1, 0, 2] (by decide) rfl H⟩) ?_
  repeat clear H
  rintro N9 ρ w ⟨pre, rest, hN, hp, h0, h5, H⟩
  refine WC.seq ?_
  refine WC.region ?_
  refine l_st rfl (s_nextM TPq 1 rfl h5 H (fun p A B2 w hsp H => ?_) (fun hnil => ?_))
  ·
    subst hsp
    have hpm := perm_mid hp
    refine l_rd rfl rfl (x_extract rfl rfl) ?_
    refine WL.nil ?_
    refine WC.seq ?_
    refine WC.cond1 rfl ?_
    refine WC.skip ?_
    refine WC.block ?_
    refine WC.seq ?_
    refine WC.region ?_
    refine l_rd rfl rfl (x_entry TPq H 1 rfl h5) ?_
    refine l_rd rfl rfl (x_extract rfl rfl) ?_
    refine l_st rfl (s_alloc ty160 H fun b3 w H => ?_)
    refine l_no (s_stA 0 rfl ty160 rfl (by conv => lhs; whnf) rfl rfl rfl H fun w H => ?_)
    refine WL.nil ?_
    refine WC.seq ?_
    refine WC.region ?_
    refine l_rd rfl rfl (x_move h0) ?_
    refine l_rd rfl rfl (x_loadF (vs := [_, _]) Tryz.underlying160 rfl ty160 rfl rfl (H.cellsL 0 rfl rfl)) ?_
    have H := Hd.arrT [_, _, _, _] [1, 0, 2, 3] (by decide) rfl H
    refine l_st rfl (s_yieldL rfl (hy pre p.1 [.agg #[S p.1.1, S p.1.2]] _ _ ⟨_, hpm⟩ (Hd.swp (Hd.pure rfl H))) ?_)
    rintro v w (⟨rfl, H⟩ | ⟨rfl, H⟩)
    ·
      refine l_rd rfl rfl (x_not rfl) ?_
      refine WL.nil ?_
      refine WC.cond0 rfl ?_
      refine WC.skip ?_
      exact ⟨rfl, (A ++ B2).length, by rw [hN]; simp, pre ++ [p.1], A ++ B2, rfl, by rw [List.append_assoc]; exact hpm, h0, h5, Hd.swp (MR.rest (Hd.arrT [_, _, _, _] [2, 0, 3] (by decide) rfl H))⟩
    ·
      refine l_rd rfl rfl (x_not rfl) ?_
      refine WL.nil ?_
      refine WC.cond1 rfl ?_
      refine WC.ret ?_
      refine atRet ?_
      exact RetM.none' rfl (.inr ⟨pre, p.1, ⟨_, hpm⟩, Hd.starAt [_] (Hd.arrT [_, _, _] [1, 2, 0] (by decide) rfl (MR.map (Hd.arrT [_, _, _, _] [2, 0, 3] (by decide) rfl H)))⟩)
  ·
    refine l_rd rfl rfl (x_extract rfl rfl) ?_
    refine WL.nil ?_
    refine WC.seq ?_
    refine WC.cond0 rfl ?_
    refine WC.exit ?_
    refine atEnd ?_
    subst hnil
    exact RetM.none' rfl (.inl ⟨pre, show List.Perm _ _ by simpa using hp, Hd.starAt [_] (Hd.arrT [_, _, _] [1, 2, 0] (by decide) rfl (MR.map (Hd.arrT [_, _, _] [1, 0, 2] (by decide) rfl H)))⟩)
theorem c84 {s : Sy} [NoEx s] {L : List Hp} {m : Nat} (w : World) (H : Hd s w L) : CC Tryz.prog 84 [.map (some m)].toArray w (fun r w' => ∃ b1 : Nat, r = .func (.func 152) #[] #[.pointer (some ⟨b1, 0, none⟩)] ∧ Hd s w' (pt b1 (.cells #[.map (some m)] 155 (0, 0)) :: L)) := by
  refine CC.of (N := 4) Tryz.func84 rfl rfl rfl ?_
  refine WC.seq ?_
  refine WC.region ?_
  refine l_st rfl (s_box (by conv => lhs; whnf) H fun b1 w H => ?_)
  refine l_rd rfl rfl (x_assign ev_c) ?_
  refine WL.nil ?_
  refine WC.seq ?_
  refine WC.region ?_
  refine l_rd rfl rfl (x_makeFuncL) ?_
  refine l_rd rfl rfl (x_assign (by conv => lhs; whnf)) ?_
  refine WL.nil ?_
  refine WC.ret ?_
  refine atRet ?_
  exact RetM.one rfl (by (conv => lhs; whnf); try rfl) (⟨_, rfl, H⟩)
theorem c78 {s : Sy} [NoEx s] {L : List Hp} {g : KE.Sub} {f a mn ml : Nat} {n : Nn} {lk : Ln} {cut last : Int} {A : Gr} (w : World) (hE : okA A) (hA : AuG g a A) (hok : okN2 n) (H : Hd s w (pt f (.cells (foC a mn ml cut last).toArray 143 (0, 0)) :: Mp TSp mn (n.map (gval pI)) :: IM TS I n :: Mp TS ml (lk.map (gval pI)) :: IM TLk I lk :: fz g :: L)) : CC Tryz.prog 78 [.pointer (some ⟨f, 0, none⟩)].toArray w (fun r w' => ∃ (b1 m7 : Nat) (al : List (Pq × Int)), r = .func (.func 152) #[] #[.pointer (some ⟨b1, 0, none⟩)] ∧ TkF A n al ∧ Hd s w' (pt b1 (.cells #[.map (some m7)] 155 (0, 0)) :: Mp TPq m7 (al.map (gval I)) :: pt f (.cells (foC a mn ml cut last).toArray 143 (0, 0)) :: Mp TSp mn (n.map (gval pI)) :: IM TS I n :: Mp TS ml (lk.map (gval pI)) :: IM TLk I lk :: fz g :: L)) := by
  refine CC.of (N := 38) Tryz.func78 rfl rfl rfl ?_
  refine WC.seq ?_
  refine WC.region ?_
  refine l_rd rfl rfl (x_assign ev_c) ?_
  refine WL.nil ?_
  refine WC.seq ?_
  refine WC.region ?_
  refine l_st rfl (s_makeMap H (fun m7 w H => ?_))
  have H := Hd.weak H (Mp.made TPq)
  refine l_rd rfl rfl (x_assign (by conv => lhs; whnf)) ?_
  refine WL.nil ?_
  refine WC.seq ?_
  refine WC.seq ?_
  refine WC.region ?_
  refine l_rd rfl rfl (x_move (by conv => lhs; whnf)) ?_
  refine l_rd rfl rfl (x_nilCheck rfl) ?_
  refine l_rd rfl rfl (x_fieldAddr (k := 1) Tryz.underlying143 rfl rfl ty140 (by decide) rfl) ?_
  refine l_rd rfl rfl (x_load Tryz.underlying140 rfl rfl (H.cellL 1 rfl rfl)) ?_
  refine l_st rfl (s_rangeM TSp Tryz.underlying140 2 rfl rfl H (fun bi w H => ?_))
  refine WL.nil ?_
  refine WC.block ?_
  refine WC.loopN (I := fun N9 ρ w => ∃ (q : Spot) (al : List (Pq × Int)) (rest : List (Spot × Value)), N9 = rest.length ∧ TkI A n q [] al rest ∧ ρ 0 = .pointer (some ⟨f, 0, none⟩) ∧ ρ 3 = .map (some m7) ∧ ρ 12 = .pointer (some ⟨bi, 0, none⟩) ∧ Hd s w (MR TSp mn bi (n.map (gval pI)) none rest :: Mp TPq m7 (al.map (gval I)) :: pt f (.cells (foC a mn ml cut last).toArray 143 (0, 0)) :: IM TS I n :: Mp TS ml (lk.map (gval pI)) :: IM TLk I lk :: fz g :: L)) (n0 := _) (⟨(⟨#[]⟩, 0), [], _, rfl, TkI.start, rfl, rfl, rfl, Hd.arrT [_, _, _, _, _, _, _] [0, 1, 2, 3, 4, 5, 6] (by decide) rfl H⟩) ?_
  repeat clear H
  rintro N9 ρ w ⟨q, al, rest, hN, hT, h0, h3, h12, H⟩
  refine WC.seq ?_
  refine WC.region ?_
  refine l_st rfl (s_nextM TSp 0 rfl h12 H (fun p A9 B9 w hsp H => ?_) (fun hnil => ?_))
  ·
    subst hsp
    obtain ⟨⟨⟨v9, s9⟩, m9, row⟩, hx, rfl⟩ := List.mem_map.1 (hT.ptr p (by simp))
    have hgl := mem_glook hok.1 hx
    refine l_rd rfl rfl (x_extract rfl rfl) ?_
    refine WL.nil ?_
    refine WC.seq ?_
    refine WC.cond1 rfl ?_
    refine WC.skip ?_
    refine WC.block ?_
    refine WC.seq ?_
    refine WC.region ?_
    refine l_rd rfl rfl (x_entry TSp H 0 rfl h12) ?_
    refine l_rd rfl rfl (x_extract rfl rfl) ?_
    refine l_rd rfl rfl (x_extract rfl rfl) ?_
    refine l_st rfl (s_alloc ty151 H fun b4 w H => ?_)
    refine l_no (s_stA 0 rfl ty151 rfl (by conv => lhs; whnf) rfl rfl rfl H fun w H => ?_)
    refine l_rd rfl rfl (x_assign (by conv => lhs; whnf)) ?_
    refine WL.nil ?_
    refine WC.seq ?_
    obtain ⟨rst, H, hcl, -⟩ := IM.focus hgl (Hd.arrT [_, _, _, _, _, _, _, _] [4, 0, 1, 2, 3, 5, 6, 7] (by decide) rfl H)
    refine WC.region ?_
    refine l_rd rfl rfl (x_move (by conv => lhs; whnf)) ?_
    refine l_st rfl (s_rangeM TS Tryz.underlying77 0 rfl rfl H (fun bj w H => ?_))
    refine WL.nil ?_
    refine WC.block ?_
    have H := MR.rest (Hd.arrT [_, _, _, _, _, _, _, _, _] [3, 0, 1, 2, 4, 5, 6, 7, 8] (by decide) rfl H)
    refine WC.loopN (I := fun N8 ρ w => ∃ (al : List (Pq × Int)) (rest2 : List (ByteArray × Value)), N8 = rest2.length ∧ TkI A n (v9, s9) rest2 al (A9 ++ B9) ∧ ρ 0 = .pointer (some ⟨f, 0, none⟩) ∧ ρ 3 = .map (some m7) ∧ ρ 12 = .pointer (some ⟨bi, 0, none⟩) ∧ ρ 4 = .pointer (some ⟨b4, 0, none⟩) ∧ ρ 19 = .pointer (some ⟨bj, 0, none⟩) ∧ Hd s w (MR TS m9 bj (row.map (gval I)) none rest2 :: rst :: pt b4 (.cells #[S v9, nI s9] 151 (0, 0)) :: MR TSp mn bi (n.map (gval pI)) none (A9 ++ B9) :: Mp TPq m7 (al.map (gval I)) :: pt f (.cells (foC a mn ml cut last).toArray 143 (0, 0)) :: Mp TS ml (lk.map (gval pI)) :: IM TLk I lk :: fz g :: L)) (n0 := _) (⟨al, _, rfl, hT.inner hgl, h0, h3, h12, rfl, rfl, by exact Hd.arrT [_, _, _, _, _, _, _, _, _] [1, 2, 3, 0, 4, 5, 6, 7, 8] (by decide) rfl H⟩) ?_
    repeat clear H
    clear hT
    rintro N8 ρ w ⟨al, rest2, hN8, hT, h0, h3, h12, h4, h19, H⟩
    refine WC.seq ?_
    refine WC.region ?_
    refine l_st rfl (s_nextM TS 0 rfl h19 H (fun p2 A8 B8 w hsp H => ?_) (fun hnil => ?_))
    ·
      subst hsp
      obtain ⟨⟨r9, τ9⟩, hx2, rfl⟩ := List.mem_map.1 (hT.ptr2 hgl p2 (by simp))
      refine l_rd rfl rfl (x_extract rfl rfl) ?_
      refine WL.nil ?_
      refine WC.seq ?_
      refine WC.cond1 rfl ?_
      refine WC.skip ?_
      refine WC.block ?_
      refine WC.seq ?_
      refine WC.region ?_
      refine l_rd rfl rfl (x_entry TS H 0 rfl h19) ?_
      refine l_rd rfl rfl (x_extract rfl rfl) ?_
      refine l_rd rfl rfl (x_assign (by conv => lhs; whnf)) ?_
      refine WL.nil ?_
      refine WC.seq ?_
      obtain ⟨tk, htk⟩ : ∃ tk, takesA A s9 = tk := ⟨_, rfl⟩
      cases tk
      ·
        refine WC.draw mixed [6] [[], [0], [0, 1], [0, 1, 2], [], [4], [0, 1, 2, 3, 4, 5]] [0, 1, 2, 3, 4, 5, 6] (by kernel_rfl) ?_
        have H := H.drew
        refine k_rd rfl rfl (RS.of rfl rfl (x_move h0)) ?_
        refine k_rd rfl rfl (RS.of rfl rfl (x_nilCheck rfl)) ?_
        refine k_rd rfl rfl (RS.of rfl rfl (x_fieldAddr (k := 0) Tryz.underlying143 rfl rfl ty71 (by decide) rfl)) ?_
        refine k_rd rfl rfl (RS.of rfl rfl (x_load Tryz.underlying71 rfl rfl (H.cellL 5 rfl rfl))) ?_
        refine k_rd rfl rfl (RS.of rfl rfl (x_fieldAddr (k := 1) Tryz.underlying151 rfl rfl ty3 (by decide) h4)) ?_
        refine k_rd rfl rfl (RS.of rfl rfl (x_load Tryz.underlying3 rfl rfl (H.cellL 2 rfl rfl))) ?_
        refine k_st rfl rfl rfl (s_callL cal53 (c53 (s := s9) _ (hA.rd (H.fz 8 rfl)) hE.1) ?_)
        rintro r w ⟨hr1, e1⟩
        have H := H.ext e1
        obtain rfl : r = .bool false := hr1.trans (by rw [htk])
        refine ⟨⟨trivial, ⟨trivial, ⟨trivial, ⟨trivial, ⟨trivial, ⟨trivial, trivial⟩⟩⟩⟩⟩⟩, ?_⟩
        show _
        refine WC.cond0 rfl ?_
        refine WC.skip ?_
        exact ⟨rfl, (A8 ++ B8).length, by rw [hN8]; simp, al, A8 ++ B8, rfl, hT.no htk, h0, h3, h12, h4, h19, MR.rest (Hd.arrT [_, _, _, _, _, _, _, _, _] [0, 1, 2, 3, 4, 5, 6, 7, 8] (by decide) rfl H)⟩
      ·
        refine WC.draw mixed [6] [[], [0], [0, 1], [0, 1, 2], [], [4], [0, 1, 2, 3, 4, 5]] [0, 1, 2, 3, 4, 5, 6] (by kernel_rfl) ?_
        have H := H.drew
        refine k_rd rfl rfl (RS.of rfl rfl (x_move h0)) ?_
        refine k_rd rfl rfl (RS.of rfl rfl (x_nilCheck rfl)) ?_
        refine k_rd rfl rfl (RS.of rfl rfl (x_fieldAddr (k := 0) Tryz.underlying143 rfl rfl ty71 (by decide) rfl)) ?_
        refine k_rd rfl rfl (RS.of rfl rfl (x_load Tryz.underlying71 rfl rfl (H.cellL 5 rfl rfl))) ?_
        refine k_rd rfl rfl (RS.of rfl rfl (x_fieldAddr (k := 1) Tryz.underlying151 rfl rfl ty3 (by decide) h4)) ?_
        refine k_rd rfl rfl (RS.of rfl rfl (x_load Tryz.underlying3 rfl rfl (H.cellL 2 rfl rfl))) ?_
        refine k_st rfl rfl rfl (s_callL cal53 (c53 (s := s9) _ (hA.rd (H.fz 8 rfl)) hE.1) ?_)
        rintro r w ⟨hr1, e1⟩
        have H := H.ext e1
        obtain rfl : r = .bool true := hr1.trans (by rw [htk])
        refine ⟨⟨trivial, ⟨trivial, ⟨trivial, ⟨trivial, ⟨trivial, ⟨trivial, trivial⟩⟩⟩⟩⟩⟩, ?_⟩
        show _
        refine WC.cond1 rfl ?_
        refine WC.region ?_
        refine l_rd rfl rfl (x_move h3) ?_
        refine l_rd rfl rfl (x_move (by conv => lhs; whnf)) ?_
        refine l_rd rfl rfl (x_fieldAddr (k := 0) Tryz.underlying151 rfl rfl ty9 (by decide) h4) ?_
        refine l_rd rfl rfl (x_load Tryz.underlying9 rfl rfl (H.cellL 2 rfl rfl)) ?_
        refine l_rd rfl rfl (x_buildL (pl := [(0, 1), (1, 1)]) (cells := [S r9, S v9]) Tryz.underlying160 ty160 (by kernel_rfl) rfl) ?_
        refine l_no (s_mapUpdate (k := (r9, v9)) TPq Tryz.underlying155 4 rfl rfl rfl ev_c H (fun w H => ?_))
        rw [aset_g I] at H
        refine WL.nil ?_
        exact ⟨rfl, (A8 ++ B8).length, by rw [hN8]; simp, gset (r9, v9) 1 al, A8 ++ B8, rfl, hT.yes hgl htk hok hx2, h0, h3, h12, h4, h19, MR.rest (Hd.arrT [_, _, _, _, _, _, _, _, _] [0, 1, 2, 3, 4, 5, 6, 7, 8] (by decide) rfl H)⟩
    ·
      subst hnil
      refine l_rd rfl rfl (x_extract rfl rfl) ?_
      refine WL.nil ?_
      refine WC.seq ?_
      refine WC.cond0 rfl ?_
      refine WC.exit ?_
      refine thenX (thenX (blockX (id := 2) (j := 2) rfl (blockE_n ?_)))
      have H := hcl _ _ _ (MR.map (Hd.arrT [_, _, _, _, _, _, _, _, _] [0, 1, 2, 3, 4, 5, 6, 7, 8] (by decide) rfl H))
      rw [gset_self hgl] at H
      exact ⟨rfl, (A9 ++ B9).length, by rw [hN]; simp, (v9, s9), al, A9 ++ B9, rfl, hT, h0, h3, h12, MR.rest (Hd.arrT [_, _, _, _, _, _, _, _] [2, 3, 4, 0, 5, 6, 7] (by decide) rfl H)⟩
  ·
    subst hnil
    have H := MR.map (Hd.arrT [_, _, _, _, _, _, _] [0, 2, 1, 3, 4, 5, 6] (by decide) rfl H)
    refine l_rd rfl rfl (x_extract rfl rfl) ?_
    refine WL.nil ?_
    refine WC.seq ?_
    refine WC.cond0 rfl ?_
    refine WC.exit ?_
    refine WC.seq ?_
    refine WC.region ?_
    refine l_rd rfl rfl (x_move h3) ?_
    refine l_st rfl (s_callL cal84 (c84 _ H) ?_)
    rintro _ w ⟨b1, rfl, H⟩
    refine l_rd rfl rfl (x_assign (by conv => lhs; whnf)) ?_
    refine WL.nil ?_
    refine WC.ret ?_
    refine atRet ?_
    exact RetM.one rfl (by (conv => lhs; whnf); try rfl) (⟨b1, m7, al, rfl, hT.fin, Hd.arrT [_, _, _, _, _, _, _, _] [0, 3, 2, 1, 4, 5, 6, 7] (by decide) rfl H⟩)
theorem ty38 : Ty Tryz.prog 38 (.slice none 0 0) 1 24 := Ty.of (by kernel_rfl)
theorem ty43 : Ty Tryz.prog 43 (.agg #[(.string ⟨#[]⟩), (.string ⟨#[]⟩), (.int .i64 0)]) 3 40 := Ty.of (by kernel_rfl)
theorem cal85 : Cal Tryz.prog 85 := ⟨_, Tryz.func85, rfl, by decide⟩
theorem cal151 : Cal Tryz.prog 151 := ⟨_, Tryz.func151, rfl, by decide⟩
theorem Sl.reN {s : Sy} {w : World} {L : List Hp} {v : Value} {e : TypeId} {sz n m : Nat} {cs : List Value} (h : n = m) (H : Hd s w (Sl v e sz n cs :: L)) : Hd s w (Sl v e sz m cs :: L) := h ▸ H
def pcT (A : Gr) (n : Nn) (q : Pq) : Pc := ⟨q.1, q.2, timeF A n q.1 q.2⟩
theorem c83 {s : Sy} [NoEx s] {L : List Hp} {g : KE.Sub} {f a mn ml : Nat} {n : Nn} {lk : Ln} {cut last : Int} {A : Gr} {fid : FuncId} {caps : List Value} {A9 : Hp} {B9 : List Pq → Hp} {ok : List Pq → Pq → Prop} {fin : List Pq → Prop} (w : World) (hE : okA A) (hA : AuG g a A) (hc : Cal Tryz.prog fid) (hit : ITa Tryz.prog s fid caps ePq ok fin A9 B9) (hlen : ∀ pre x, ok pre x → pre.length < 1000000000) (H : Hd s w (A9 :: pt f (.cells (foC a mn ml cut last).toArray 143 (0, 0)) :: Mp TSp mn (n.map (gval pI)) :: IM TS I n :: Mp TS ml (lk.map (gval pI)) :: IM TLk I lk :: fz g :: L)) : CC Tryz.prog 83 [.pointer (some ⟨f, 0, none⟩), .func (.func fid) #[] caps.toArray].toArray w (fun r w' => ∃ (xs : List Pq) (l2 : List Pc), fin xs ∧ l2.Perm (xs.map (pcT A n)) ∧ srtP l2 ∧ Hd s w' (Sl r 43 3 xs.length (l2.flatMap pcC) :: B9 xs :: pt f (.cells (foC a mn ml cut last).toArray 143 (0, 0)) :: Mp TSp mn (n.map (gval pI)) :: IM TS I n :: Mp TS ml (lk.map (gval pI)) :: IM TLk I lk :: fz g :: L)) := by
  refine CC.of (N := 22) Tryz.func83 rfl rfl rfl ?_
  refine WC.seq ?_
  refine WC.region ?_
  refine l_st rfl (s_box (by conv => lhs; whnf) H fun b2 w H => ?_)
  refine l_st rfl (s_alloc ty38 H fun b4 w H => ?_)
  refine WL.nil ?_
  refine WC.seq ?_
  refine WC.seq ?_
  refine WC.region ?_
  refine l_rd rfl rfl (x_move (by conv => lhs; whnf)) ?_
  refine WL.nil ?_
  refine WC.block ?_
  have H := PX.mk (α := Value) (φ := fun _ => True) (A := fun v => [pt b4 (.cells #[v] 38 (0, 0)), Sl v 43 3 ([] : List Pq).length ((([] : List Pq).map (pcT A n)).flatMap pcC), pt b2 (.cells #[.pointer (some ⟨f, 0, none⟩)] 74 (0, 0)), pt f (.cells (foC a mn ml cut last).toArray 143 (0, 0)), Mp TSp mn (n.map (gval pI)), IM TS I n, Mp TS ml (lk.map (gval pI)), IM TLk I lk, fz g]) (.slice none 0 0) trivial (Hd.arrT [_, _, _, _, _, _, _, _, _, _] [1, 0, 2, 4, 5, 6, 7, 8, 9, 3] (by decide) rfl (Hd.nil H 43 3))
  refine WC.rangeFnA (P := Tryz.prog) (caps := caps) (E := ePq) (ok := ok) (fin := fin) (A := A9) (B := B9) (I := fun pre => PX (α := Value) (fun _ => True) (fun v => [pt b4 (.cells #[v] 38 (0, 0)), Sl v 43 3 pre.length ((pre.map (pcT A n)).flatMap pcC), pt b2 (.cells #[.pointer (some ⟨f, 0, none⟩)] 74 (0, 0)), pt f (.cells (foC a mn ml cut last).toArray 143 (0, 0)), Mp TSp mn (n.map (gval pI)), IM TS I n, Mp TS ml (lk.map (gval pI)), IM TLk I lk, fz g])) (X := fun _ _ => fun _ => False) (L := L) rfl hc (by decide) (fun x vs h hv => by have : vs = _ := hv; rw [this]; rfl) hit H ?_ ?_ ?_
  ·
    intro l pre x vs w L' L2 hok hrec H
    obtain ⟨hh, _, hvs⟩ := H.fact_at 1 rfl
    have hvs : vs = [.agg #[S x.1, S x.2]] := hvs
    subst hvs
    refine WC.region ?_
    refine l_st rfl (s_alloc ty160 H fun b5 w H => ?_)
    refine l_no (s_stA 0 rfl ty160 rfl (by conv => lhs; whnf) rfl rfl rfl H fun w H => ?_)
    refine WL.nil ?_
    refine ⟨⟨[_, _, _], H⟩, fun w2 hw2 => ?_⟩
    clear hrec
    have H := Hd.arrT [_, _, _] [1, 0] (by decide) rfl (hw2 [_, _, _] H)
    clear hw2
    obtain ⟨v0, -, H⟩ := PX.opn H
    obtain ⟨a0, c0, rfl⟩ := (H.sl 1 rfl).shape
    have hll := hlen pre x hok
    refine WC.block ?_
    refine WC.draw mixed [7, 9, 10, 11] [[], [], [1], [], [3], [], [], [5, 6], [1, 2, 3, 4, 5, 6, 7], [1, 2, 3, 4, 5, 6, 7, 8], [0, 1, 2, 3, 4, 5, 6, 7, 8, 9], [0, 1, 2, 3, 4, 5, 6, 7, 8, 9, 10]] [0, 1, 2, 3, 4, 5, 6, 7, 8, 9, 10, 11] (by kernel_rfl) ?_
    have H := H.drew
    refine k_rd rfl rfl (RS.of rfl rfl (x_load Tryz.underlying38 rfl rfl (H.cellL 0 rfl rfl))) ?_
    refine k_rd rfl rfl (RS.of rfl rfl (x_fieldAddr (k := 0) Tryz.underlying160 rfl rfl ty9 (by decide) rfl)) ?_
    refine k_rd rfl rfl (RS.of rfl rfl (x_load Tryz.underlying9 rfl rfl (H.cellL 9 rfl rfl))) ?_
    refine k_rd rfl rfl (RS.of rfl rfl (x_fieldAddr (k := 1) Tryz.underlying160 rfl rfl ty9 (by decide) rfl)) ?_
    refine k_rd rfl rfl (RS.of rfl rfl (x_load Tryz.underlying9 rfl rfl (H.cellL 9 rfl rfl))) ?_
    refine k_rd rfl rfl (RS.of rfl rfl (x_load Tryz.underlying74 rfl rfl (H.cellL 2 rfl rfl))) ?_
    refine k_rd rfl rfl (RS.of rfl rfl (x_loadF (vs := [_, _]) Tryz.underlying160 rfl ty160 rfl rfl (H.cellsL 9 rfl rfl))) ?_
    refine k_st rfl rfl rfl (s_callL cal79 (c79 hE _ (FoL.rdc hA (Hd.arrT [_, _, _, _, _, _, _, _, _, _] [3, 4, 5, 6, 7, 8, 0, 1, 2, 9] (by decide) rfl H))) ?_)
    rintro _ w ⟨rfl, e1⟩
    have H := H.ext e1
    refine ⟨⟨trivial, ⟨trivial, ⟨RS.of rfl rfl (x_load Tryz.underlying9 rfl rfl (H.cellL 9 rfl rfl)), ⟨RS.of rfl rfl (x_fieldAddr (k := 1) Tryz.underlying160 rfl rfl ty9 (by decide) rfl), ⟨RS.of rfl rfl (x_load Tryz.underlying9 rfl rfl (H.cellL 9 rfl rfl)), ⟨RS.of rfl rfl (x_fieldAddr (k := 0) Tryz.underlying160 rfl rfl ty9 (by decide) rfl), ⟨RS.of rfl rfl (x_load Tryz.underlying38 rfl rfl (H.cellL 0 rfl rfl)), trivial⟩⟩⟩⟩⟩⟩⟩, ?_⟩
    refine k_rd rfl rfl (RS.of rfl rfl (x_buildL (pl := [(0, 1), (1, 1), (2, 1)]) (cells := pcC (pcT A n x)) Tryz.underlying43 ty43 (by kernel_rfl) rfl)) ?_
    refine k_st rfl rfl rfl (s_build1A Tryz.underlying38 ty43 rfl (by decide) (by decide) (by conv => lhs; whnf) rfl H fun b17 w H => ⟨⟨trivial, ⟨trivial, ⟨trivial, ⟨trivial, ⟨trivial, ⟨trivial, ⟨trivial, ⟨RS.of rfl rfl (x_load Tryz.underlying38 rfl rfl (H.cellL 1 rfl rfl)), trivial⟩⟩⟩⟩⟩⟩⟩⟩, ?_⟩)
    refine k_st rfl rfl rfl (s_append Tryz.underlying38 ty43 rfl (by decide) (by decide) rfl 2 rfl rfl rfl (H.sl 0 rfl) (by simp [Value.oneCell']) (by omega) H fun v18 w H => ⟨⟨trivial, ⟨trivial, ⟨trivial, ⟨trivial, ⟨trivial, ⟨trivial, ⟨trivial, ⟨trivial, trivial⟩⟩⟩⟩⟩⟩⟩⟩, ?_⟩)
    obtain ⟨a18, c18, rfl⟩ := (H.sl 2 rfl).shape
    refine k_no rfl rfl rfl (s_st 1 rfl ty38 rfl (by conv => lhs; whnf) rfl rfl H fun w H => ⟨⟨trivial, ⟨trivial, ⟨trivial, ⟨trivial, ⟨trivial, ⟨trivial, ⟨trivial, ⟨trivial, trivial⟩⟩⟩⟩⟩⟩⟩⟩, ?_⟩)
    show _
    exact PX.mk _ trivial (by rw [len_snoc, List.map_append, List.flatMap_append]; exact Hd.arrT [_, _, _, _, _, _, _, _, _, _, _] [1, 2, 3, 4, 5, 6, 7, 8, 9] (by decide) rfl H)
  ·
    intro w m xs hfin H
    obtain ⟨v0, -, H⟩ := PX.opn H
    obtain ⟨a0, c0, rfl⟩ := (H.sl 1 rfl).shape
    refine WC.seq ?_
    refine WC.region ?_
    refine l_rd rfl rfl (x_load Tryz.underlying38 rfl rfl (H.cellL 0 rfl rfl)) ?_
    have H := Sl.reN (m := (xs.map (pcT A n)).length) (List.length_map ..).symm (Hd.arrT [_, _, _, _, _, _, _, _, _, _, _] [1, 0, 2, 3, 4, 5, 6, 7, 8, 9, 10] (by decide) rfl H)
    refine l_st rfl (s_callL cal85 (c85 _ (.inl rfl) H) ?_)
    rintro _ w ⟨l2, rfl, hp2, hs2, H⟩
    refine WL.nil ?_
    refine WC.seq ?_
    refine WC.region ?_
    refine l_rd rfl rfl (x_load Tryz.underlying38 rfl rfl (H.cellL 1 rfl rfl)) ?_
    refine l_no (s_st 1 rfl ty38 rfl (by conv => lhs; whnf) rfl rfl H fun w H => ?_)
    refine WL.nil ?_
    refine WC.ret ?_
    refine atRet ?_
    refine RetM.mark H (i := 10) rfl (fun w H => ?_)
    exact RetM.cell1 rfl (by (conv => lhs; whnf); try rfl) Tryz.underlying38 rfl (H.cellL 1 rfl rfl) (⟨xs, l2, hfin, hp2, hs2, by rw [List.length_map] at H; exact Hd.arrT [_, _, _, _, _, _, _, _, _, _, _] [0, 9, 3, 4, 5, 6, 7, 8] (by decide) rfl H⟩)
  ·
    intro w m c pre x hok H
    obtain ⟨hh, _, hF⟩ := H.fact_at 0 rfl
    exact hF.elim
theorem cal72 : Cal Tryz.prog 72 := ⟨_, Tryz.func72, rfl, by decide⟩
theorem cal73 : Cal Tryz.prog 73 := ⟨_, Tryz.func73, rfl, by decide⟩
theorem cal74 : Cal Tryz.prog 74 := ⟨_, Tryz.func74, rfl, by decide⟩
theorem cal78 : Cal Tryz.prog 78 := ⟨_, Tryz.func78, rfl, by decide⟩
theorem cal83 : Cal Tryz.prog 83 := ⟨_, Tryz.func83, rfl, by decide⟩
theorem cal152 : Cal Tryz.prog 152 := ⟨_, Tryz.func152, rfl, by decide⟩
/-! ### what is shown: a list in strict order that holds just the pairs of a law -/
abbrev Tm := Pq → Option Int
structure Shw (l : List Pc) (T : Tm) : Prop where
  srt : l.Pairwise pLt
  iff : ∀ p : Pc, p ∈ l ↔ T (p.src, p.dst) = some p.time
theorem Shw.uniq {l m : List Pc} {T : Tm} (h : Shw l T) (k : Shw m T) : l = m := by
  have hm : ∀ p, p ∈ l ↔ p ∈ m := fun p => (h.iff p).trans (k.iff p).symm
  have hl := h.srt
  have hk := k.srt
  clear h k
  induction l generalizing m with
  | nil =>
    cases m with
    | nil => rfl
    | cons q m => exact absurd ((hm q).2 List.mem_cons_self) (by simp)
  | cons p l ih =>
    cases m with
    | nil => exact absurd ((hm p).1 List.mem_cons_self) (by simp)
    | cons q m =>
      rw [List.pairwise_cons] at hl hk
      have e : p = q := by
        rcases List.mem_cons.1 ((hm p).1 List.mem_cons_self) with h1 | h1
        · exact h1
        · rcases List.mem_cons.1 ((hm q).2 List.mem_cons_self) with h2 | h2
          · exact h2.symm
          · exact absurd (hl.1 q h2) (pLt_asym (hk.1 p h1))
      subst e
      congr 1
      refine ih (fun r => ?_) hl.2 hk.2
      have h1 := hm r
      rw [List.mem_cons, List.mem_cons] at h1
      constructor
      · intro h2
        rcases h1.1 (.inr h2) with rfl | h3
        · exact absurd (hl.1 _ h2) (pLt_irr _)
        · exact h3
      · intro h2
        rcases h1.2 (.inr h2) with rfl | h3
        · exact absurd (hk.1 _ h2) (pLt_irr _)
        · exact h3
theorem Shw.filter {l : List Pc} {T T' : Tm} {f : Pc → Bool} (h : Shw l T) (k : ∀ p : Pc, T' (p.src, p.dst) = some p.time ↔ T (p.src, p.dst) = some p.time ∧ f p = true) : Shw (l.filter f) T' :=
  ⟨h.srt.sublist List.filter_sublist, fun p => by rw [List.mem_filter, h.iff, k]⟩
/-- pairs of a forest -/
def held (A : Gr) (n : Nn) (p : Pq) : Prop := ∃ s t, takesA A s = true ∧ nodT n p.1 p.2 s = some t
open Classical in
noncomputable def tree (A : Gr) (n : Nn) : Tm := fun p => if held A n p then some (timeF A n p.1 p.2) else none
theorem tree_some {A : Gr} {n : Nn} {p : Pq} {t : Int} : tree A n p = some t ↔ held A n p ∧ t = timeF A n p.1 p.2 := by
  unfold tree
  split
  · rename_i h; simp [h]; exact eq_comm
  · rename_i h; simp [h]
theorem srt_strict {l : List Pc} (h : srtP l) (hn : (l.map fun p => (p.src, p.dst)).Nodup) : l.Pairwise pLt := by
  induction l with
  | nil => exact List.Pairwise.nil
  | cons p l ih =>
    unfold srtP at h
    rw [List.pairwise_cons] at h ⊢
    rw [List.map_cons, List.nodup_cons] at hn
    refine ⟨fun q hq => ?_, ih h.2 hn.2⟩
    rcases pLt_tri p q with h1 | ⟨h1, h2⟩ | h1
    · exact h1
    · exact absurd (List.mem_map.2 ⟨q, hq, by rw [h1, h2]⟩) hn.1
    · exact absurd h1 (h.1 q hq)
theorem TkF.shw {A : Gr} {n : Nn} {al : List (Pq × Int)} {xs : List Pq} {l : List Pc} (h : TkF A n al) (hx : xs.Perm (al.map (·.1))) (hp : l.Perm (xs.map (pcT A n))) (hs : srtP l) : Shw l (tree A n) := by
  refine ⟨srt_strict hs ?_, fun p => ?_⟩
  · have : (l.map fun p => (p.src, p.dst)).Perm xs := by
      have h1 := hp.map fun p : Pc => (p.src, p.dst)
      rw [List.map_map] at h1
      refine h1.trans ?_
      rw [show ((fun p : Pc => (p.src, p.dst)) ∘ pcT A n) = id from rfl, List.map_id]
    exact (this.trans hx).nodup_iff.2 h.nd
  · rw [hp.mem_iff, tree_some]
    have hm : ∀ q : Pq, q ∈ xs ↔ held A n q := fun q => by
      rw [hx.mem_iff]
      refine Iff.trans ?_ (h.iff q)
      constructor
      · intro h1
        obtain ⟨⟨q', v⟩, h2, rfl⟩ := List.mem_map.1 h1
        rw [mem_glook h.nd h2]; rfl
      · intro h1
        obtain ⟨v, hv⟩ := Option.isSome_iff_exists.1 h1
        exact List.mem_map.2 ⟨_, glook_mem hv, rfl⟩
    constructor
    · intro h1
      obtain ⟨q, hq, rfl⟩ := List.mem_map.1 h1
      exact ⟨(hm q).1 hq, rfl⟩
    · rintro ⟨h1, h2⟩
      refine List.mem_map.2 ⟨(p.src, p.dst), (hm _).2 h1, ?_⟩
      unfold pcT
      obtain ⟨p1, p2, p3⟩ := p
      simp only at h2 ⊢
      rw [h2]
theorem TkF.len {A : Gr} {n : Nn} {al : List (Pq × Int)} {E : List Hq} {c : Int} (h : TkF A n al) (hE : E.length ≤ 20) (hf : ∀ r v s t, nodT n r v s = some t → FinP A E c r v s t) : al.length ≤ 400 := by
  have h1 := len_sub (l := al.map (·.1)) (m := (srcs E).flatMap fun r => (dsts E).map fun v => (r, v)) h.nd fun q hq => by
    obtain ⟨⟨q', v⟩, h2, rfl⟩ := List.mem_map.1 hq
    obtain ⟨s, t, -, h4⟩ := (h.iff q').1 (by rw [mem_glook h.nd h2]; rfl)
    have h5 := hf _ _ _ _ h4
    exact List.mem_flatMap.2 ⟨_, h5.1, List.mem_map.2 ⟨_, h5.2.1, rfl⟩⟩
  have h2 : ((srcs E).flatMap fun r => (dsts E).map fun v => (r, v)).length = (srcs E).length * E.length := by
    induction srcs E with
    | nil => simp
    | cons r l ih => rw [List.flatMap_cons, List.length_append, ih, List.length_map, List.length_cons, Nat.succ_mul]; simp [dsts]; omega
  rw [h2, List.length_map] at h1
  have : (srcs E).length = E.length := by simp [srcs]
  rw [this] at h1
  exact Nat.le_trans h1 (Nat.mul_le_mul hE hE)
theorem c34 {s : Sy} [NoEx s] {L : List Hp} {g : KE.Sub} {f a mn ml : Nat} {n : Nn} {lk : Ln} {cut last : Int} {A : Gr} {t : Int} (w : World) (hA : AuG g a A) (hn : okN2 n) (hl : okN2 lk) (htn : tot n ≤ 10000000) (htl : tot lk ≤ 10000000) (H : Hd s w (pt f (.cells (foC a mn ml cut last).toArray 143 (0, 0)) :: Mp TSp mn (n.map (gval pI)) :: IM TS I n :: Mp TS ml (lk.map (gval pI)) :: IM TLk I lk :: fz g :: L)) : CC Tryz.prog 34 [.pointer (some ⟨f, 0, none⟩), I t].toArray w (fun r w' => ∃ (n' : Nn) (l' : Ln) (k : Nat), r = I k ∧ okN2 n' ∧ okN2 l' ∧ (∀ q q', look2 n' q q' = (look2 n q q').filter (fun u => decide (max cut t < u))) ∧ (∀ q q', look2 l' q q' = (look2 lk q q').filter (fun u => decide (max cut t < u))) ∧ k + tot n' = tot n ∧ tot l' ≤ tot lk ∧ Hd s w' (pt f (.cells (foC a mn ml (max cut t) last).toArray 143 (0, 0)) :: Mp TSp mn (n'.map (gval pI)) :: IM TS I n' :: Mp TS ml (l'.map (gval pI)) :: IM TLk I l' :: fz g :: L)) := by
  refine CC.of (N := 35) Tryz.func34 rfl rfl rfl ?_
  refine WC.seq ?_
  refine WC.region ?_
  refine l_rd rfl rfl (x_assign ev_c) ?_
  refine WL.nil ?_
  refine WC.seq ?_
  refine WC.seq ?_
  refine WC.region ?_
  refine l_rd rfl rfl (x_move (by conv => lhs; whnf)) ?_
  refine l_st rfl (s_callL cal72 (c72 _ (FoL.rdc hA (Hd.arrT [_, _, _, _, _, _] [0, 1, 2, 3, 4, 5] (by decide) rfl H))) ?_)
  rintro _ w ⟨rfl, e1⟩
  have H := H.ext e1
  refine l_rd rfl rfl (x_not rfl) ?_
  refine WL.nil ?_
  refine WC.cond0 rfl ?_
  refine WC.skip ?_
  refine WC.seq ?_
  refine WC.region ?_
  refine l_rd rfl rfl (x_move (by conv => lhs; whnf)) ?_
  refine l_rd rfl rfl (x_move (by conv => lhs; whnf)) ?_
  refine l_rd rfl rfl (x_nilCheck rfl) ?_
  refine l_rd rfl rfl (x_fieldAddr (k := 3) Tryz.underlying143 rfl rfl ty3 (by decide) rfl) ?_
  refine l_rd rfl rfl (x_load Tryz.underlying3 rfl rfl (H.cellL 0 rfl rfl)) ?_
  refine l_rd rfl rfl (x_move (by conv => lhs; whnf)) ?_
  refine l_rd rfl rfl (x_max (a := cut) (b := t) rfl rfl) ?_
  rw [maxI]
  refine l_rd rfl rfl (x_nilCheck rfl) ?_
  refine l_rd rfl rfl (x_fieldAddr (k := 3) Tryz.underlying143 rfl rfl ty3 (by decide) rfl) ?_
  refine l_no (s_st 0 rfl ty3 rfl (by conv => lhs; whnf) rfl rfl H fun w H => ?_)
  refine WL.nil ?_
  refine WC.seq ?_
  refine WC.draw mixed [8] [[], [0], [0, 1], [0, 1, 2], [], [4], [4, 5], [4, 5, 6], [0, 1, 2, 3, 4, 5, 6, 7]] [0, 1, 2, 3, 4, 5, 6, 7, 8] (by kernel_rfl) ?_
  have H := H.drew
  refine k_rd rfl rfl (RS.of rfl rfl (x_move (by conv => lhs; whnf))) ?_
  refine k_rd rfl rfl (RS.of rfl rfl (x_nilCheck rfl)) ?_
  refine k_rd rfl rfl (RS.of rfl rfl (x_fieldAddr (k := 2) Tryz.underlying143 rfl rfl ty141 (by decide) rfl)) ?_
  refine k_rd rfl rfl (RS.of rfl rfl (x_load Tryz.underlying141 rfl rfl (H.cellL 0 rfl rfl))) ?_
  refine k_rd rfl rfl (RS.of rfl rfl (x_move (by conv => lhs; whnf))) ?_
  refine k_rd rfl rfl (RS.of rfl rfl (x_nilCheck rfl)) ?_
  refine k_rd rfl rfl (RS.of rfl rfl (x_fieldAddr (k := 3) Tryz.underlying143 rfl rfl ty3 (by decide) rfl)) ?_
  refine k_rd rfl rfl (RS.of rfl rfl (x_load Tryz.underlying3 rfl rfl (H.cellL 0 rfl rfl))) ?_
  refine k_st rfl rfl rfl (s_callL cal73 (c73 _ hl htl (Hd.arrT [_, _, _, _, _, _] [3, 4, 0, 1, 2, 5] (by decide) rfl H)) ?_)
  rintro v25 w ⟨l2, k2, rfl, hl2, hq2, ht2, H⟩
  refine ⟨⟨trivial, ⟨trivial, ⟨trivial, ⟨trivial, ⟨trivial, ⟨trivial, ⟨trivial, ⟨trivial, trivial⟩⟩⟩⟩⟩⟩⟩⟩, ?_⟩
  show _
  refine WC.seq ?_
  refine WC.draw mixed [8] [[], [0], [0, 1], [0, 1, 2], [], [4], [4, 5], [4, 5, 6], [0, 1, 2, 3, 4, 5, 6, 7], [0, 1, 2, 3, 4, 5, 6, 7, 8]] [0, 1, 2, 3, 4, 5, 6, 7, 8, 9] (by kernel_rfl) ?_
  have H := H.drew
  refine k_rd rfl rfl (RS.of rfl rfl (x_move (by conv => lhs; whnf))) ?_
  refine k_rd rfl rfl (RS.of rfl rfl (x_nilCheck rfl)) ?_
  refine k_rd rfl rfl (RS.of rfl rfl (x_fieldAddr (k := 1) Tryz.underlying143 rfl rfl ty140 (by decide) rfl)) ?_
  refine k_rd rfl rfl (RS.of rfl rfl (x_load Tryz.underlying140 rfl rfl (H.cellL 2 rfl rfl))) ?_
  refine k_rd rfl rfl (RS.of rfl rfl (x_move (by conv => lhs; whnf))) ?_
  refine k_rd rfl rfl (RS.of rfl rfl (x_nilCheck rfl)) ?_
  refine k_rd rfl rfl (RS.of rfl rfl (x_fieldAddr (k := 3) Tryz.underlying143 rfl rfl ty3 (by decide) rfl)) ?_
  refine k_rd rfl rfl (RS.of rfl rfl (x_load Tryz.underlying3 rfl rfl (H.cellL 2 rfl rfl))) ?_
  refine k_st rfl rfl rfl (s_callL cal74 (c74 _ hn htn (Hd.arrT [_, _, _, _, _, _] [3, 4, 0, 1, 2, 5] (by decide) rfl H)) ?_)
  rintro v34 w ⟨n2, k3, rfl, hn2, hq3, ht3, H⟩
  refine ⟨⟨trivial, ⟨trivial, ⟨trivial, ⟨trivial, ⟨trivial, ⟨trivial, ⟨trivial, ⟨trivial, trivial⟩⟩⟩⟩⟩⟩⟩⟩, ?_⟩
  refine k_rd rfl rfl (RS.of rfl rfl (x_assign (by conv => lhs; whnf))) ?_
  show _
  refine WC.ret ?_
  refine atRet ?_
  exact RetM.one rfl (by (conv => lhs; whnf); try rfl) (⟨n2, l2, k3, rfl, hn2, hl2, hq3, hq2, ht3, by omega, Hd.arrT [_, _, _, _, _, _] [4, 0, 1, 2, 3, 5] (by decide) rfl H⟩)
theorem c70 {s : Sy} [NoEx s] {L : List Hp} {g : KE.Sub} {f a mn ml : Nat} {n : Nn} {lk : Ln} {cut last : Int} {A : Gr} {E : List Hq} {c : Int} (w : World) (hE : okA A) (hA : AuG g a A) (hn : okN2 n) (hEd : E.length ≤ 20) (hfin : ∀ r v s t, nodT n r v s = some t → FinP A E c r v s t) (H : Hd s w (pt f (.cells (foC a mn ml cut last).toArray 143 (0, 0)) :: Mp TSp mn (n.map (gval pI)) :: IM TS I n :: Mp TS ml (lk.map (gval pI)) :: IM TLk I lk :: fz g :: L)) : CC Tryz.prog 70 [.pointer (some ⟨f, 0, none⟩)].toArray w (fun r w' => ∃ l2 : List Pc, Shw l2 (tree A n) ∧ Hd s w' (Sl r 43 3 l2.length (l2.flatMap pcC) :: pt f (.cells (foC a mn ml cut last).toArray 143 (0, 0)) :: Mp TSp mn (n.map (gval pI)) :: IM TS I n :: Mp TS ml (lk.map (gval pI)) :: IM TLk I lk :: fz g :: L)) := by
  refine CC.of (N := 10) Tryz.func70 rfl rfl rfl ?_
  refine WC.seq ?_
  refine WC.region ?_
  refine l_rd rfl rfl (x_assign ev_c) ?_
  refine WL.nil ?_
  refine WC.seq ?_
  refine WC.seq ?_
  refine WC.region ?_
  refine l_rd rfl rfl (x_move (by conv => lhs; whnf)) ?_
  refine l_st rfl (s_callL cal72 (c72 _ (FoL.rdc hA (Hd.arrT [_, _, _, _, _, _] [0, 1, 2, 3, 4, 5] (by decide) rfl H))) ?_)
  rintro _ w ⟨rfl, e1⟩
  have H := H.ext e1
  refine l_rd rfl rfl (x_not rfl) ?_
  refine WL.nil ?_
  refine WC.cond0 rfl ?_
  refine WC.skip ?_
  refine WC.seq ?_
  refine WC.region ?_
  refine l_rd rfl rfl (x_move (by conv => lhs; whnf)) ?_
  refine l_rd rfl rfl (x_move (by conv => lhs; whnf)) ?_
  refine l_st rfl (s_callL cal78 (c78 _ hE hA hn H) ?_)
  rintro v8 w ⟨b1, m7, al, rfl, hT, H⟩
  have hlen := hT.len hEd hfin
  refine l_st rfl (s_callL cal83 (c83 _ hE hA cal152 (it152 (row := al)) (fun pre x h => by have := h.len; rw [List.length_map] at this; omega) (Hd.star (Hd.arrT [_, _, _, _, _, _, _, _] [0, 1, 2, 3, 4, 5, 6, 7] (by decide) rfl H))) ?_)
  rintro v9 w ⟨xs, l3, hfx, hp3, hs3, H⟩
  refine l_rd rfl rfl (x_assign (by conv => lhs; whnf)) ?_
  refine WL.nil ?_
  refine WC.ret ?_
  refine atRet ?_
  exact RetM.one rfl (by (conv => lhs; whnf); try rfl) (⟨l3, hT.shw hfx hp3 hs3, Sl.reN (by rw [hp3.length_eq, List.length_map]) (Hd.arrT [_, _, _, _, _, _, _, _] [0, 2, 3, 4, 5, 6, 7] (by decide) rfl H)⟩)
/-! ### the greatest time -/
theorem timeS_le (A : Gr) (n : Nn) (r v : ByteArray) (b : Int) (s : Nat) : b ≤ timeS A n r v b s := by
  unfold timeS
  split
  · split <;> omega
  · omega
theorem foldT (A : Gr) (n : Nn) (r v : ByteArray) : ∀ (l : List Nat) (b : Int), b ≤ l.foldl (timeS A n r v) b ∧ (∀ s ∈ l, ∀ t, takesA A s = true → nodT n r v s = some t → t ≤ l.foldl (timeS A n r v) b) ∧
    (l.foldl (timeS A n r v) b = b ∨ ∃ s ∈ l, takesA A s = true ∧ nodT n r v s = some (l.foldl (timeS A n r v) b))
  | [], b => ⟨Int.le_refl _, fun s h => (by cases h), .inl rfl⟩
  | x :: l, b => by
    obtain ⟨h1, h2, h3⟩ := foldT A n r v l (timeS A n r v b x)
    have hb := timeS_le A n r v b x
    rw [List.foldl_cons]
    refine ⟨by omega, fun s hs t hk ht => ?_, ?_⟩
    · rcases List.mem_cons.1 hs with rfl | hs
      · have : t ≤ timeS A n r v b s := by
          unfold timeS
          rw [ht]; simp only [hk, if_true]; omega
        omega
      · exact h2 s hs t hk ht
    · rcases h3 with h3 | ⟨s, hs, h4, h5⟩
      · rw [h3]
        unfold timeS
        cases hn : nodT n r v x with
        | none => exact .inl rfl
        | some t =>
          simp only []
          cases hk : takesA A x with
          | false => exact .inl (by simp)
          | true =>
            simp only [if_true]
            rcases Int.le_total t b with e | e
            · exact .inl (by omega)
            · right
              refine ⟨x, List.mem_cons_self, hk, ?_⟩
              rw [hn]; congr 1; omega
      · exact .inr ⟨s, List.mem_cons_of_mem _ hs, h4, h5⟩
theorem timeF_ge {A : Gr} {n : Nn} {r v : ByteArray} {s : Nat} {t : Int} (hs : s < A.rows.length) (hk : takesA A s = true) (ht : nodT n r v s = some t) : t ≤ timeF A n r v := (foldT A n r v _ _).2.1 s (List.mem_range.2 hs) t hk ht
theorem timeF_mem (A : Gr) (n : Nn) (r v : ByteArray) : timeF A n r v = -1 ∨ ∃ s, s < A.rows.length ∧ takesA A s = true ∧ nodT n r v s = some (timeF A n r v) := by
  rcases (foldT A n r v (List.range A.rows.length) (-1)).2.2 with h | ⟨s, h1, h2, h3⟩
  · exact .inl h
  · exact .inr ⟨s, List.mem_range.1 h1, h2, h3⟩
/-- held pairs: the greatest time is a time -/
theorem held_time {A : Gr} {n : Nn} {E : List Hq} {c : Int} {p : Pq} (hf : ∀ r v s t, nodT n r v s = some t → FinP A E c r v s t) (hc : -1 ≤ c) (h : held A n p) : ∃ s, takesA A s = true ∧ nodT n p.1 p.2 s = some (timeF A n p.1 p.2) := by
  obtain ⟨s, t, hk, ht⟩ := h
  have h1 := hf _ _ _ _ ht
  have h2 := timeF_ge h1.2.2.1 hk ht
  rcases timeF_mem A n p.1 p.2 with h3 | ⟨s', -, h4, h5⟩
  · have := h1.2.2.2.2; omega
  · exact ⟨s', h4, h5⟩
/-! ### what changes -/
def chg (T T' : Tm) : Tm := fun p => if T p = T' p then none else T' p
theorem chg_some {T T' : Tm} {p : Pq} {t : Int} : chg T T' p = some t ↔ T' p = some t ∧ T p ≠ some t := by
  unfold chg
  split
  · rename_i h; rw [h]; simp
  · rename_i h
    constructor
    · intro h1; exact ⟨h1, fun h2 => h (h2.trans h1.symm)⟩
    · exact fun h1 => h1.1
/-- the times of pairs before -/
def WasI (A : Gr) (n : Nn) (pre : List Pq) (wl : List (Pq × Int)) : Prop := (wl.map (·.1)).Nodup ∧ ∀ q, (q ∈ pre → glook q wl = some (timeF A n q.1 q.2)) ∧ (q ∉ pre → glook q wl = none)
theorem WasI.nil (A : Gr) (n : Nn) : WasI A n [] [] := ⟨List.nodup_nil, fun q => ⟨fun h => (by cases h), fun _ => rfl⟩⟩
theorem WasI.next {A : Gr} {n : Nn} {pre : List Pq} {wl : List (Pq × Int)} {x : Pq} (h : WasI A n pre wl) : WasI A n (pre ++ [x]) (gset x (timeF A n x.1 x.2) wl) := by
  refine ⟨gset_nodup h.1, fun q => ?_⟩
  rw [glook_gset]
  by_cases e : q = x
  · subst e; simp
  · rw [if_neg e]
    have : q ∈ pre ++ [x] ↔ q ∈ pre := by simp [e]
    rw [this]; exact h.2 q
/-- what an edge tells -/
theorem told_shw {A : Gr} {E : List Hq} {c : Int} {lk : Ln} {n n' : Nn} {met al was l2 : List (Pq × Int)} {xs ys : List Pq} {l : List Pc} (hc : -1 ≤ c) (hf : ∀ r v s t, nodT n r v s = some t → FinP A E c r v s t) (hG : GI A E c lk n n' [] met)
    (hT : TkF A n al) (hx : xs.Perm (al.map (·.1))) (hw : WasI A n xs was) (hn2 : (l2.map (·.1)).Nodup) (hl2 : ∀ x, x ∈ l2 ↔ x ∈ met ∧ metP was A n' x.1 = false) (hy : ys.Perm (l2.map (·.1))) (hp : l.Perm (ys.map (pcT A n'))) (hs : srtP l) : Shw l (chg (tree A n) (tree A n')) := by
  have hmono : ∀ p, held A n p → held A n' p := fun p ⟨s, t, h1, h2⟩ => by
    obtain ⟨t', h3, _⟩ := hG.mono _ _ _ _ h2
    exact ⟨s, t', h1, h3⟩
  have hxs : ∀ q, q ∈ xs ↔ held A n q := fun q => by
    rw [hx.mem_iff]
    refine Iff.trans ?_ (hT.iff q)
    constructor
    · intro h1
      obtain ⟨⟨q', v⟩, h2, rfl⟩ := List.mem_map.1 h1
      rw [mem_glook hT.nd h2]; rfl
    · intro h1
      obtain ⟨v, hv⟩ := Option.isSome_iff_exists.1 h1
      exact List.mem_map.2 ⟨_, glook_mem hv, rfl⟩
  have key : ∀ q, q ∈ ys ↔ held A n' q ∧ tree A n q ≠ some (timeF A n' q.1 q.2) := fun q => by
    rw [hy.mem_iff]
    have e1 : q ∈ l2.map (·.1) ↔ (glook q met).isSome = true ∧ metP was A n' q = false := by
      constructor
      · intro h1
        obtain ⟨⟨q', v⟩, h2, rfl⟩ := List.mem_map.1 h1
        obtain ⟨h3, h4⟩ := (hl2 _).1 h2
        exact ⟨by rw [mem_glook hG.nd h3]; rfl, h4⟩
      · rintro ⟨h1, h2⟩
        obtain ⟨v, hv⟩ := Option.isSome_iff_exists.1 h1
        exact List.mem_map.2 ⟨(q, v), (hl2 _).2 ⟨glook_mem hv, h2⟩, rfl⟩
    rw [e1, hG.met]
    constructor
    · rintro ⟨⟨s, h1, h2⟩, h3⟩
      have hh : held A n' q := by
        cases h4 : nodT n' q.1 q.2 s with
        | some t => exact ⟨s, t, h1, h4⟩
        | none =>
          cases h5 : nodT n q.1 q.2 s with
          | none => exact absurd (h4.trans h5.symm) h2
          | some t =>
            obtain ⟨t', h6, _⟩ := hG.mono _ _ _ _ h5
            rw [h4] at h6; cases h6
      refine ⟨hh, fun h4 => ?_⟩
      obtain ⟨h5, h6⟩ := tree_some.1 h4
      unfold metP at h3
      rw [((hw.2 q).1 ((hxs q).2 h5))] at h3
      have := of_decide_eq_false h3
      omega
    · rintro ⟨h1, h2⟩
      refine ⟨?_, ?_⟩
      · refine Classical.byContradiction fun h3 => h2 (tree_some.2 ?_)
        have h4 : ∀ s, takesA A s = true → nodT n' q.1 q.2 s = nodT n q.1 q.2 s := fun s hk => Classical.byContradiction fun h5 => h3 ⟨s, hk, h5⟩
        obtain ⟨s, t, h5, h6⟩ := h1
        refine ⟨⟨s, t, h5, by rw [← h4 s h5]; exact h6⟩, ?_⟩
        unfold timeF
        congr 1
        funext b s
        unfold timeS
        cases hk : takesA A s with
        | true => rw [h4 s hk]
        | false => cases nodT n' q.1 q.2 s <;> cases nodT n q.1 q.2 s <;> simp
      · unfold metP
        cases h3 : glook q was with
        | none => rfl
        | some o =>
          refine decide_eq_false fun hle => h2 (tree_some.2 ?_)
          have hq : q ∈ xs := Classical.byContradiction fun h4 => by
            rw [(hw.2 q).2 h4] at h3; cases h3
          have h4 := (hw.2 q).1 hq
          rw [h3] at h4
          cases h4
          have h5 := (hxs q).1 hq
          refine ⟨h5, ?_⟩
          obtain ⟨s, h6, h7⟩ := held_time hf hc h5
          obtain ⟨t', h8, h9⟩ := hG.mono _ _ _ _ h7
          have h10 := timeF_ge (hG.fin _ _ _ _ h8).2.2.1 h6 h8
          omega
  refine ⟨srt_strict hs ?_, fun p => ?_⟩
  · have : (l.map fun p => (p.src, p.dst)).Perm ys := by
      have h1 := hp.map fun p : Pc => (p.src, p.dst)
      rw [List.map_map] at h1
      refine h1.trans ?_
      rw [show ((fun p : Pc => (p.src, p.dst)) ∘ pcT A n') = id from rfl, List.map_id]
    exact (this.trans hy).nodup_iff.2 hn2
  · rw [hp.mem_iff, chg_some, tree_some]
    constructor
    · intro h1
      obtain ⟨q, hq, rfl⟩ := List.mem_map.1 h1
      have := (key q).1 hq
      exact ⟨⟨this.1, rfl⟩, this.2⟩
    · rintro ⟨⟨h1, h2⟩, h3⟩
      refine List.mem_map.2 ⟨(p.src, p.dst), (key _).2 ⟨h1, by rw [← h2]; exact h3⟩, ?_⟩
      unfold pcT
      obtain ⟨p1, p2, p3⟩ := p
      simp only at h2 ⊢
      rw [h2]
/-! ### between edges -/
structure Cl (A : Gr) (E : List Hq) (c last : Int) (lk : Ln) (n : Nn) : Prop where
  okn : okN2 n
  okl : okN2 lk
  lnk : Lv E c lk
  fin : ∀ r v s t, nodT n r v s = some t → FinP A E c r v s t
  snd : ∀ r v s t, nodT n r v s = some t → Dw A lk r v s t
  cl0 : ∀ r to lab u s, lnkT lk r to lab = some u → stepA A 0 lab = some s → ∃ t', nodT n r to s = some t' ∧ u ≤ t'
  cl : ∀ r v s t to lab u s', nodT n r v s = some t → lnkT lk v to lab = some u → stepA A s lab = some s' → ∃ t', nodT n r to s' = some t' ∧ min t u ≤ t'
  lst : ∀ q ∈ E, q.2.2.2 ≤ last
def hq (e : Ed) : Hq := (e.src, e.dst, e.lab, e.time)
theorem Cl.pre {A : Gr} {E : List Hq} {c last : Int} {lk lk' : Ln} {n : Nn} {e : Ed} (h : Cl A E c last lk n) (hl : last ≤ e.time) (hc : c < e.time) (hk : ∀ v to lab, lnkT lk' v to lab = if (v, to, lab) = (e.src, e.dst, e.lab) then some e.time else lnkT lk v to lab) : Pre A (hq e :: E) c lk' n e := by
  have hle : ∀ v to lab u, lnkT lk v to lab = some u → u ≤ e.time := fun v to lab u hu => Int.le_trans (h.lst _ (h.lnk _ _ _ _ hu).1) hl
  have up : ∀ v to lab u, lnkT lk v to lab = some u → ∃ u', lnkT lk' v to lab = some u' ∧ u ≤ u' := fun v to lab u hu => by
    rw [hk]
    split
    · exact ⟨_, rfl, hle _ _ _ _ hu⟩
    · exact ⟨u, hu, Int.le_refl _⟩
  have dv : ∀ {r v s t}, Dv A lk r v s t → Dw A lk' r v s t := by
    intro r v s t d
    induction d with
    | base a b =>
      obtain ⟨u', h1, h2⟩ := up _ _ _ _ a
      exact ⟨u', h2, .base h1 b⟩
    | step d a b ih =>
      obtain ⟨t', h1, h2⟩ := ih
      obtain ⟨u', h3, h4⟩ := up _ _ _ _ a
      exact ⟨min t' u', by omega, .step h2 h3 b⟩
  refine ⟨h.okn, fun v to lab u hu => ?_, fun r v s t ht => (h.fin r v s t ht).mono fun q hq => List.mem_cons_of_mem _ hq, fun r v s t ht => ?_, fun r to lab u s a b => ?_, fun r v s t to lab u s' a b d => ?_, by rw [hk, if_pos rfl]⟩
  · rw [hk] at hu
    split at hu
    · rename_i e1
      simp only [Prod.mk.injEq] at e1
      obtain ⟨rfl, rfl, rfl⟩ := e1
      cases hu
      exact ⟨List.mem_cons_self, hc⟩
    · have := h.lnk _ _ _ _ hu
      exact ⟨List.mem_cons_of_mem _ this.1, this.2⟩
  · obtain ⟨t', h1, h2⟩ := h.snd r v s t ht
    obtain ⟨t2, h3, h4⟩ := dv h2
    exact ⟨t2, by omega, h4⟩
  · rw [hk] at a
    split at a
    · rename_i e1
      simp only [Prod.mk.injEq] at e1
      cases a
      exact .inl ⟨e1.1, e1.2.1, e1.2.2, rfl⟩
    · exact .inr (h.cl0 _ _ _ _ _ a b)
  · rw [hk] at b
    split at b
    · rename_i e1
      simp only [Prod.mk.injEq] at e1
      cases b
      exact .inl ⟨e1.1, e1.2.1, e1.2.2, rfl⟩
    · exact .inr (h.cl _ _ _ _ _ _ _ _ a b d)
/-- how many nodes -/
theorem tot_le {A : Gr} {E : List Hq} {c : Int} {n : Nn} (hn : okN2 n) (hf : ∀ r v s t, nodT n r v s = some t → FinP A E c r v s t) : tot n ≤ E.length * (E.length * (A.rows.length * E.length)) := by
  have h1 : (n.flatMap fun p => p.2.2.map fun q => (p.1, q)).length = tot n := by
    unfold tot
    clear hn hf
    induction n with
    | nil => rfl
    | cons p n ih => rw [List.flatMap_cons, List.length_append, ih, List.map_cons, List.sum_cons, List.length_map]
  have hnd : (n.flatMap fun p => p.2.2.map fun q => (p.1, q)).Nodup := by
    rw [List.Nodup, List.pairwise_flatMap]
    refine ⟨fun p hp => ?_, ?_⟩
    · have h2 := hn.2 p hp
      rw [List.Nodup, List.pairwise_map] at h2
      rw [List.pairwise_map]
      exact h2.imp fun {a b} hab e => hab (by rw [(Prod.mk.inj e).2])
    · have h2 := hn.1
      rw [List.Nodup, List.pairwise_map] at h2
      refine h2.imp fun {p p'} hne => ?_
      intro x hx y hy e
      obtain ⟨q, _, rfl⟩ := List.mem_map.1 hx
      obtain ⟨q', _, h4⟩ := List.mem_map.1 hy
      rw [← e] at h4
      exact hne (Prod.mk.inj h4).1.symm
  have h2 := len_sub (l := n.flatMap fun p => p.2.2.map fun q => (p.1, q)) (m := (univ A E).map fun x => (((x.2.1, x.2.2.1) : Spot), (x.1, x.2.2.2))) hnd fun x hx => by
    obtain ⟨p, hp, h3⟩ := List.mem_flatMap.1 hx
    obtain ⟨⟨r, t⟩, hq, rfl⟩ := List.mem_map.1 h3
    obtain ⟨⟨v, s⟩, m, row⟩ := p
    have h4 : nodT n r v s = some t := by
      unfold nodT look2
      rw [mem_glook hn.1 hp]
      exact mem_glook (hn.2 _ hp) hq
    have h5 := hf _ _ _ _ h4
    exact List.mem_map.2 ⟨(r, v, s, t), univ_mem ⟨h5.1, h5.2.1, h5.2.2.1, h5.2.2.2.1⟩, rfl⟩
  rw [h1, List.length_map, univ_len] at h2
  exact h2
theorem GI.cl_ {A : Gr} {E : List Hq} {c last : Int} {lk : Ln} {n0 n : Nn} {met : List (Pq × Int)} (h : GI A E c lk n0 n [] met) (hl : okN2 lk) (hL : Lv E c lk) (hE : ∀ q ∈ E, q.2.2.2 ≤ last) : Cl A E c last lk n := by
  have at_ : ∀ {r to s t}, At n [] r to s t → ∃ t', nodT n r to s = some t' ∧ t ≤ t' := by
    rintro r to s t (h1 | ⟨x, hx, _⟩)
    · exact h1
    · cases hx
  exact ⟨h.ok, hl, hL, h.fin, h.snd, fun r to lab u s a b => at_ (h.cl0 r to lab u s a b), fun r v s t to lab u s' a b c => at_ (h.cl r v s t to lab u s' a b c), hE⟩
end Go.Proofs.YteibnmkikdbndaaGreatDoor
