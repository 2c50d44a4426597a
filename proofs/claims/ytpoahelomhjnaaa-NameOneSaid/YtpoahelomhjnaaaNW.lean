/-
  What functions of this seat do: contracts, proved by walks; each with the conditions that it names.
-/
import Derived.Test.YtpoahelomhjnaaaKEj
import Derived.Test.YtpoahelomhjnaaaProg
set_option linter.unusedVariables false
set_option linter.unusedSimpArgs false
namespace Go.Proofs.Ytpoahelomhjnaaa
open Go Go.RowKit KE Go.Proofs
/-! ### a book -/
noncomputable def TS : KT Try.prog 9 ByteArray := ktS Try.prog 9 Try.underlying9
abbrev S (x : ByteArray) : Value := .string x
abbrev I (x : Int) : Value := .int .i64 x
def ents (ts : List ByteArray) : List (ByteArray × Value) := ts.zipIdx.map fun p => (p.1, .int .i64 (p.2 : Int))
def BookR (w : World) (B : Nat) (ts : List ByteArray) : Prop := ts.Nodup ∧ ∃ M es cl v f, w.heap[B]? = some (.cells #[.map (some M), v] 53 f) ∧ w.heap[M]? = some (.map es cl) ∧ MV TS.kv es (ents ts) ∧ RdL w v S ts
def BookP (B : Nat) (ts : List ByteArray) : Hp := fun h => ∃ q : Nat × Value, ts.Nodup ∧ star (pt B (.cells #[.map (some q.1), q.2] 53 (0, 0))) (star (Mp TS q.1 (ents ts)) (Sl q.2 9 1 ts.length (ts.map S))) h
def RefR (w : World) (B : Nat) (ts : List ByteArray) : Prop := ∃ v f, w.heap[B]? = some (.cells #[v] 43 f) ∧ RdL w v S ts
def RefP (B : Nat) (ts : List ByteArray) : Hp := fun h => ∃ v : Value, True ∧ star (pt B (.cells #[v] 43 (0, 0))) (Sl v 9 1 ts.length (ts.map S)) h
theorem BookR.ext {w w' : World} {B : Nat} {ts : List ByteArray} (h : BookR w B ts) (e : Ext w w') : BookR w' B ts := by
  obtain ⟨h0, M, es, cl, v, f, h1, h2, h3, h4⟩ := h
  exact ⟨h0, M, es, cl, v, f, e.old _ _ h1, e.old _ _ h2, h3, h4.ext e⟩
theorem BookR.old {w w' : World} {B : Nat} {ts : List ByteArray} (h : BookR w B ts) (e : Old w w') : BookR w' B ts := by
  obtain ⟨h0, M, es, cl, v, f, h1, h2, h3, h4⟩ := h
  exact ⟨h0, M, es, cl, v, f, e _ _ h1, e _ _ h2, h3, e.rdL h4⟩
theorem RefR.ext {w w' : World} {B : Nat} {ts : List ByteArray} (h : RefR w B ts) (e : Ext w w') : RefR w' B ts := by
  obtain ⟨v, f, h1, h4⟩ := h
  exact ⟨v, f, e.old _ _ h1, h4.ext e⟩
theorem RefR.old {w w' : World} {B : Nat} {ts : List ByteArray} (h : RefR w B ts) (e : Old w w') : RefR w' B ts := by
  obtain ⟨v, f, h1, h4⟩ := h
  exact ⟨v, f, e _ _ h1, e.rdL h4⟩
section
variable {s : Sy} {w : World} {L : List Hp} {B : Nat} {ts : List ByteArray}
theorem BookP.opn (H : Hd s w (BookP B ts :: L)) : ∃ M v, ts.Nodup ∧ Hd s w (pt B (.cells #[.map (some M), v] 53 (0, 0)) :: Mp TS M (ents ts) :: Sl v 9 1 ts.length (ts.map S) :: L) := by
  obtain ⟨⟨M, v⟩, h1, h2⟩ := Hd.opn (φ := fun _ => ts.Nodup) (q := fun q : Nat × Value => star (pt B (.cells #[.map (some q.1), q.2] 53 (0, 0))) (star (Mp TS q.1 (ents ts)) (Sl q.2 9 1 ts.length (ts.map S)))) H (fun x hx => hx)
  have h3 := h2.unstar
  have h4 := (h3.perm (List.Perm.swap _ _ _)).unstar
  exact ⟨M, v, h1, h4.arr_tail3'⟩
theorem BookP.mk {M : Nat} {v : Value} (hn : ts.Nodup) (H : Hd s w (pt B (.cells #[.map (some M), v] 53 (0, 0)) :: Mp TS M (ents ts) :: Sl v 9 1 ts.length (ts.map S) :: L)) : Hd s w (BookP B ts :: L) := by
  have h1 := (H.arr_head3).star
  have h2 := (h1.perm (List.Perm.swap _ _ _)).star
  exact h2.weak fun h hh => ⟨(M, v), hn, hh⟩
theorem BookP.rd (H : Hd s w L) (i : Nat) (hi : L[i]? = some (BookP B ts)) : BookR w B ts := by
  obtain ⟨M, v, hn, h⟩ := BookP.opn (H.pick i hi)
  obtain ⟨es, cl, h2, h3⟩ := Mp.obj TS h 1 rfl
  exact ⟨hn, M, es, cl, v, _, h.obj 0 rfl, h2, h3, by have := h.sl 2 rfl; simpa [RdL] using this⟩
theorem RefP.opn (H : Hd s w (RefP B ts :: L)) : ∃ v, Hd s w (pt B (.cells #[v] 43 (0, 0)) :: Sl v 9 1 ts.length (ts.map S) :: L) := by
  obtain ⟨v, _, h2⟩ := Hd.opn (φ := fun _ => True) (q := fun v : Value => star (pt B (.cells #[v] 43 (0, 0))) (Sl v 9 1 ts.length (ts.map S))) H (fun x hx => hx)
  exact ⟨v, h2.unstar⟩
theorem RefP.mk {v : Value} (H : Hd s w (pt B (.cells #[v] 43 (0, 0)) :: Sl v 9 1 ts.length (ts.map S) :: L)) : Hd s w (RefP B ts :: L) :=
  H.star.weak fun h hh => ⟨v, trivial, hh⟩
theorem RefP.rd (H : Hd s w L) (i : Nat) (hi : L[i]? = some (RefP B ts)) : RefR w B ts := by
  obtain ⟨v, h⟩ := RefP.opn (H.pick i hi)
  exact ⟨v, _, h.obj 0 rfl, by have := h.sl 1 rfl; simpa [RdL] using this⟩
end
/-! ### what is found -/
instance : LawfulBEq ByteArray where
  eq_of_beq h := by rw [ba_beq] at h; exact of_decide_eq_true h
  rfl {a} := by rw [ba_beq]; exact decide_eq_true rfl
def fIdx (ts : List ByteArray) (s : ByteArray) : Int := if s ∈ ts then (ts.idxOf s : Int) else 0
theorem alook_zip (s : ByteArray) : ∀ (ts : List ByteArray) (k : Nat), alook s ((ts.zipIdx k).map fun p => (p.1, Value.int .i64 (p.2 : Int))) = if s ∈ ts then some (.int .i64 ((k + ts.idxOf s : Nat) : Int)) else none
  | [], k => by simp [alook]
  | t :: ts, k => by
    simp only [List.zipIdx_cons, List.map_cons, alook]
    by_cases h : s = t
    · subst h; simp
    · rw [if_neg h, alook_zip s ts (k + 1)]
      by_cases hm : s ∈ ts
      · rw [if_pos hm, if_pos (List.mem_cons_of_mem _ hm), List.idxOf_cons, show (t == s) = false from by rw [ba_beq]; exact decide_eq_false (Ne.symm h)]
        simp only [cond_false]; congr 3; omega
      · rw [if_neg hm, if_neg (by simp [h, hm])]
theorem alook_ents (s : ByteArray) (ts : List ByteArray) : alook s (ents ts) = if s ∈ ts then some (.int .i64 (fIdx ts s)) else none := by
  rw [ents, alook_zip s ts 0]
  by_cases h : s ∈ ts
  · rw [if_pos h, if_pos h, fIdx, if_pos h, Nat.zero_add]
  · rw [if_neg h, if_neg h]
def tIs (ts : List ByteArray) (n : Int) : Prop := 0 ≤ n ∧ n < ts.length
instance (ts : List ByteArray) (n : Int) : Decidable (tIs ts n) := by unfold tIs; infer_instance
def tAt (ts : List ByteArray) (n : Int) : ByteArray := if tIs ts n then ts.getD n.toNat ⟨#[]⟩ else ⟨#[]⟩
theorem tAt_get {ts : List ByteArray} {n : Int} {t : ByteArray} (h : tIs ts n) (ht : ts[n.toNat]? = some t) : tAt ts n = t := by
  rw [tAt, if_pos h, List.getD_eq_getElem?_getD, ht]; rfl
end Go.Proofs.Ytpoahelomhjnaaa
