/-
  The engine of this proof, for any program: heaps in parts. No condition.
-/
import Derived.Test.YtpoahelomhjnaaaKEa
import Derived.Below
set_option linter.unusedVariables false
set_option linter.unusedSimpArgs false
namespace KE
open Go Go.RowKit

/-! ### parts of memory -/
abbrev Hp := (Nat → Option Obj) → Prop
structure Sy where
  os : Os
  tape : Nat → Question → Nat
  output : Array (Nat × ByteArray)
def sy (w : World) : Sy := ⟨w.os, w.tape, w.output⟩
def hsub (h : Nat → Option Obj) (w : World) : Prop := ∀ i o, h i = some o → w.heap[i]? = some o
def hdis (h g : Nat → Option Obj) : Prop := ∀ i, h i = none ∨ g i = none
def hor (h g : Nat → Option Obj) : Nat → Option Obj := fun i => match h i with | some o => some o | none => g i
def star (p q : Hp) : Hp := fun h => ∃ a b, hdis a b ∧ h = hor a b ∧ p a ∧ q b
def sep : List Hp → Hp
  | [] => fun _ => True
  | p :: l => star p (sep l)
def pt (b : Nat) (o : Obj) : Hp := fun h => h b = some o
def fr (w0 : World) : Hp := fun h => ∀ i o, w0.heap[i]? = some o → h i = some o
def Hd (s : Sy) (w : World) (L : List Hp) : Prop := (w.os = s.os ∧ w.tape = s.tape ∧ w.output = s.output) ∧ ∃ h, hsub h w ∧ sep L h
abbrev Ext (w w' : World) : Prop := Below w.heap.size w w'
theorem Ext.refl (w : World) : Ext w w := Below.refl _ _
theorem Ext.trans {a b c : World} (h : Ext a b) (k : Ext b c) : Ext a c := Below.trans h (k.mono h.size)

theorem hdis.symm {h g : Nat → Option Obj} (k : hdis h g) : hdis g h := fun i => (k i).symm
theorem hor_comm {h g : Nat → Option Obj} (k : hdis h g) : hor h g = hor g h := by
  funext i
  unfold hor
  rcases k i with e | e
  · rw [e]; cases g i <;> rfl
  · rw [e]; cases h i <;> rfl
theorem hor_assoc (a b c : Nat → Option Obj) : hor (hor a b) c = hor a (hor b c) := by
  funext i
  unfold hor
  cases a i <;> simp
theorem hdis_hor_l {a b c : Nat → Option Obj} (h : hdis a (hor b c)) : hdis a b ∧ hdis a c := by
  constructor <;> intro i <;> rcases h i with e | e
  · exact .inl e
  · refine .inr ?_; unfold hor at e; split at e <;> simp_all
  · exact .inl e
  · refine .inr ?_; unfold hor at e; split at e <;> simp_all
theorem hdis_hor {a b c : Nat → Option Obj} (h : hdis a b) (k : hdis a c) : hdis a (hor b c) := fun i => by
  rcases h i with e | e
  · exact .inl e
  · rcases k i with e' | e'
    · exact .inl e'
    · right; simp [hor, e, e']
theorem star_swap {p q r : Hp} {h : Nat → Option Obj} (k : star p (star q r) h) : star q (star p r) h := by
  obtain ⟨a, b, hab, rfl, hp, c, d, hcd, rfl, hq, hr⟩ := k
  obtain ⟨h1, h2⟩ := hdis_hor_l hab
  refine ⟨c, hor a d, hdis_hor h1.symm hcd, ?_, hq, a, d, h2, rfl, hp, hr⟩
  rw [← hor_assoc, hor_comm h1, hor_assoc]
theorem star_mono {p p' q q' : Hp} {h : Nat → Option Obj} (k : star p q h) (h1 : ∀ h, p h → p' h) (h2 : ∀ h, q h → q' h) : star p' q' h := by
  obtain ⟨a, b, x, y, hp, hq⟩ := k
  exact ⟨a, b, x, y, h1 _ hp, h2 _ hq⟩
theorem sep_perm {L L' : List Hp} (hp : L.Perm L') : ∀ h, sep L h → sep L' h := by
  induction hp with
  | nil => exact fun _ h => h
  | cons x _ ih => exact fun h k => star_mono k (fun _ h => h) ih
  | swap x y l => exact fun h k => star_swap k
  | trans _ _ i1 i2 => exact fun h k => i2 _ (i1 _ k)
theorem star_assoc {p q r : Hp} {h : Nat → Option Obj} : star (star p q) r h ↔ star p (star q r) h := by
  constructor
  · rintro ⟨x, c, h1, rfl, ⟨a, b, h2, rfl, hp, hq⟩, hr⟩
    obtain ⟨k1, k2⟩ := hdis_hor_l h1.symm
    exact ⟨a, hor b c, hdis_hor h2 k1.symm, hor_assoc _ _ _, hp, b, c, k2.symm, rfl, hq, hr⟩
  · rintro ⟨a, x, h1, rfl, hp, b, c, h2, rfl, hq, hr⟩
    obtain ⟨k1, k2⟩ := hdis_hor_l h1
    exact ⟨hor a b, c, (hdis_hor k2.symm h2.symm).symm, (hor_assoc _ _ _).symm, ⟨a, b, k1, rfl, hp, hq⟩, hr⟩
theorem sep_append {A B : List Hp} {h : Nat → Option Obj} : sep (A ++ B) h ↔ star (sep A) (sep B) h := by
  induction A generalizing h with
  | nil =>
    constructor
    · intro k; exact ⟨fun _ => none, h, fun _ => .inl rfl, rfl, trivial, k⟩
    · rintro ⟨a, b, hd, rfl, _, k⟩
      -- affine: what is left over goes with any part
      revert k
      have key : ∀ (B : List Hp) (a b : Nat → Option Obj), hdis a b → sep B b → sep B (hor a b) := by
        intro B
        induction B with
        | nil => exact fun _ _ _ _ => trivial
        | cons p l ih =>
          rintro a b hd ⟨c, d, h1, rfl, hp, hl⟩
          obtain ⟨k1, k2⟩ := hdis_hor_l hd
          refine ⟨c, hor a d, hdis_hor k1.symm h1, ?_, hp, ih a d k2 hl⟩
          rw [← hor_assoc, hor_comm k1, hor_assoc]
      exact key B a b hd
  | cons p l ih =>
    show star p (sep (l ++ B)) h ↔ star (star p (sep l)) (sep B) h
    rw [star_assoc]
    constructor
    · exact fun k => star_mono k (fun _ h => h) (fun _ h => ih.1 h)
    · exact fun k => star_mono k (fun _ h => h) (fun _ h => ih.2 h)
theorem sep_drop {p : Hp} {L : List Hp} {h : Nat → Option Obj} (k : sep (p :: L) h) : sep L h := by
  have : sep ([] ++ L) h := sep_append.2 (star_mono k (fun _ _ => trivial) (fun _ h => h))
  exact this

section
variable {s : Sy} {w w' : World} {L : List Hp} {p q : Hp}
theorem Hd.perm (H : Hd s w L) {L' : List Hp} (h : L.Perm L') : Hd s w L' := ⟨H.1, H.2.imp fun _ k => ⟨k.1, sep_perm h _ k.2⟩⟩
theorem perm_pick {α : Type} {l : List α} : ∀ {i : Nat} {x : α}, l[i]? = some x → l.Perm (x :: l.eraseIdx i) := by
  induction l with
  | nil => intro i x h; simp at h
  | cons a l ih =>
    intro i x h
    cases i with
    | zero => simp at h; subst h; exact List.Perm.refl _
    | succ i => simp at h; exact (List.Perm.cons a (ih h)).trans (List.Perm.swap _ _ _)
theorem Hd.pick (H : Hd s w L) (i : Nat) (hi : L[i]? = some p) : Hd s w (p :: L.eraseIdx i) := H.perm (perm_pick hi)
theorem Hd.drop (H : Hd s w (p :: L)) : Hd s w L := ⟨H.1, H.2.imp fun _ k => ⟨k.1, sep_drop k.2⟩⟩
theorem Hd.weak (H : Hd s w (p :: L)) (h : ∀ x, p x → q x) : Hd s w (q :: L) := ⟨H.1, H.2.imp fun _ k => ⟨k.1, star_mono k.2 h (fun _ h => h)⟩⟩
theorem Hd.unstar (H : Hd s w (star p q :: L)) : Hd s w (p :: q :: L) := ⟨H.1, H.2.imp fun _ k => ⟨k.1, star_assoc.1 k.2⟩⟩
theorem Hd.star (H : Hd s w (p :: q :: L)) : Hd s w (star p q :: L) := ⟨H.1, H.2.imp fun _ k => ⟨k.1, star_assoc.2 k.2⟩⟩
theorem Hd.unsep {A : List Hp} (H : Hd s w (sep A :: L)) : Hd s w (A ++ L) := ⟨H.1, H.2.imp fun _ k => ⟨k.1, sep_append.2 k.2⟩⟩
theorem Hd.sep {A : List Hp} (H : Hd s w (A ++ L)) : Hd s w (sep A :: L) := ⟨H.1, H.2.imp fun _ k => ⟨k.1, sep_append.1 k.2⟩⟩
theorem Hd.unex {α : Type} {p : α → Hp} (H : Hd s w ((fun h => ∃ x, p x h) :: L)) : ∃ x, Hd s w (p x :: L) := by
  obtain ⟨h0, h, hs, a, b, h1, h2, ⟨x, hx⟩, h4⟩ := H
  exact ⟨x, h0, h, hs, a, b, h1, h2, hx, h4⟩
theorem Hd.unand {φ : Prop} (H : Hd s w ((fun h => φ ∧ p h) :: L)) : φ ∧ Hd s w (p :: L) := by
  obtain ⟨h0, h, hs, a, b, h1, h2, ⟨x, hx⟩, h4⟩ := H
  exact ⟨x, h0, h, hs, a, b, h1, h2, hx, h4⟩
theorem Hd.fact (H : Hd s w (p :: L)) : ∃ h, hsub h w ∧ p h := by
  obtain ⟨h0, h, hs, a, b, h1, h2, h3, h4⟩ := H
  exact ⟨a, fun i o hi => hs i o (by rw [h2]; simp [hor, hi]), h3⟩
theorem Hd.fact_at (H : Hd s w L) (i : Nat) (hi : L[i]? = some p) : ∃ h, hsub h w ∧ p h := (H.pick i hi).fact
theorem Hd.obj (H : Hd s w L) {b : Nat} {o : Obj} (i : Nat) (hi : L[i]? = some (pt b o)) : w.heap[b]? = some o := by
  obtain ⟨h, h1, h2⟩ := H.fact_at i hi
  exact h1 _ _ h2
theorem cell_of {w : World} {b off : Nat} {cs : Array Value} {t : TypeId} {f : Nat × Nat} {v : Value} (h : w.heap[b]? = some (.cells cs t f)) (hc : cs[off]? = some v) : w.cell? ⟨b, off, none⟩ = some v := by
  simp [World.cell?, h, hc]
theorem free_of {w : World} {b off : Nat} {cs : Array Value} {t : TypeId} (h : w.heap[b]? = some (.cells cs t (0, 0))) : w.frozen? ⟨b, off, none⟩ = false := by
  simp [World.frozen?, h]
theorem Hd.cell (H : Hd s w L) {b off : Nat} {cs : Array Value} {t : TypeId} {f : Nat × Nat} {v : Value} (i : Nat) (hi : L[i]? = some (pt b (.cells cs t f))) (hc : cs[off]? = some v) : w.cell? ⟨b, off, none⟩ = some v :=
  cell_of (H.obj i hi) hc
theorem cell_ofL {w : World} {b off : Nat} {cs : Array Value} {t : TypeId} {f : Nat × Nat} {v : Value} (h : w.heap[b]? = some (.cells cs t f)) (hc : cs.toList[off]? = some v) : w.cell? ⟨b, off, none⟩ = some v := cell_of h (by simpa using hc)
theorem Hd.cellL (H : Hd s w L) {b off : Nat} {cs : Array Value} {t : TypeId} {f : Nat × Nat} {v : Value} (i : Nat) (hi : L[i]? = some (pt b (.cells cs t f))) (hc : cs.toList[off]? = some v) : w.cell? ⟨b, off, none⟩ = some v :=
  cell_ofL (H.obj i hi) hc
theorem Hd.ext (H : Hd s w L) (e : Ext w w') : Hd s w' L := by
  obtain ⟨⟨h1, h2, h3⟩, h, hs, hL⟩ := H
  refine ⟨⟨e.os.trans h1, e.tape.trans h2, e.output.trans h3⟩, h, fun i o hi => ?_, hL⟩
  have := hs i o hi
  rw [e.block i (Array.getElem?_eq_some_iff.1 this).1]; exact this
theorem Hd.drew (H : Hd s w L) : Hd s w.drew L := H
theorem Ext.alloc (w : World) (o : Obj) : Ext w (w.alloc o) := (Below.refl _ w).alloc (Nat.le_refl _) o
theorem Hd.alloc (H : Hd s w L) (o : Obj) : Hd s (w.alloc o) (pt w.heap.size o :: L) := by
  obtain ⟨h0, h, hs, hL⟩ := H
  have hlt : ∀ i o, h i = some o → i < w.heap.size := fun i o hi => (Array.getElem?_eq_some_iff.1 (hs i o hi)).1
  refine ⟨h0, hor (fun i => if i = w.heap.size then some o else none) h, ?_, _, h, ?_, rfl, ?_, hL⟩
  · intro i o' hi
    by_cases e : i = w.heap.size
    · subst e
      simp [hor] at hi
      subst hi
      show (w.heap.push o)[w.heap.size]? = some o
      simp
    · simp [hor, e] at hi
      have := hlt i o' hi
      show (w.heap.push o)[i]? = some o'
      rw [Array.getElem?_push, if_neg e]
      exact hs i o' hi
  · intro i
    by_cases e : i = w.heap.size
    · right
      cases hh : h i with
      | none => rfl
      | some o' => have := hlt i o' hh; omega
    · left; simp [e]
  · simp [pt]
/-- a block that is new -/
theorem Hd.fresh (H : Hd s w L) (e : Ext w w') {b : Nat} {o : Obj} (hb : w.heap.size ≤ b) (ho : w'.heap[b]? = some o) : Hd s w' (pt b o :: L) := by
  obtain ⟨h0, h, hs, hL⟩ := H
  have hlt : ∀ i o, h i = some o → i < w.heap.size := fun i o hi => (Array.getElem?_eq_some_iff.1 (hs i o hi)).1
  refine ⟨⟨e.os.trans h0.1, e.tape.trans h0.2.1, e.output.trans h0.2.2⟩, hor (fun i => if i = b then some o else none) h, ?_, _, h, ?_, rfl, ?_, hL⟩
  · intro i o' hi
    by_cases e1 : i = b
    · subst e1; simp [hor] at hi; subst hi; exact ho
    · simp [hor, e1] at hi
      rw [e.block i (hlt i o' hi)]; exact hs i o' hi
  · intro i
    by_cases e1 : i = b
    · right
      cases hh : h i with
      | none => rfl
      | some o' => have := hlt i o' hh; omega
    · left; simp [e1]
  · simp [pt]
theorem Hd.newObj (H : Hd s w L) (o : Obj) : ∃ b, b = w.heap.size ∧ Hd s (w.alloc o) (pt b o :: L) := ⟨_, rfl, H.alloc o⟩
theorem eraseIdx_set_perm {α : Type} {l : List α} : ∀ {i : Nat} {x : α} (y : α), l[i]? = some x → (y :: l.eraseIdx i).Perm (l.set i y) := by
  induction l with
  | nil => intro i x y h; simp at h
  | cons a l ih =>
    intro i x y h
    cases i with
    | zero => exact List.Perm.refl _
    | succ i => simp at h; exact (List.Perm.swap _ _ _).trans (List.Perm.cons a (ih y h))
/-- one object of ours becomes another -/
theorem Hd.change (H : Hd s w L) {b : Nat} {o : Obj} (i : Nat) (hi : L[i]? = some (pt b o)) {o' : Obj} (h1 : w'.heap[b]? = some o') (h2 : ∀ k, k ≠ b → w'.heap[k]? = w.heap[k]?)
    (h3 : w'.os = w.os ∧ w'.tape = w.tape ∧ w'.output = w.output) : Hd s w' (L.set i (pt b o')) := by
  refine Hd.perm ?_ (eraseIdx_set_perm (pt b o') hi)
  obtain ⟨⟨e1, e2, e3⟩, h, hs, a, c, hd, rfl, ha, hc⟩ := H.pick i hi
  refine ⟨⟨h3.1.trans e1, h3.2.1.trans e2, h3.2.2.trans e3⟩, hor (fun k => if k = b then some o' else none) c, ?_, _, c, ?_, rfl, by simp [pt], hc⟩
  · intro k x hk
    by_cases e : k = b
    · subst e; simp [hor] at hk; subst hk; exact h1
    · simp [hor, e] at hk
      rw [h2 k e]
      refine hs k x ?_
      rcases hd k with e' | e'
      · simp [hor, e', hk]
      · rw [e'] at hk; cases hk
  · intro k
    by_cases e : k = b
    · subst e
      rcases hd k with e' | e'
      · rw [show a k = some o from ha] at e'; cases e'
      · exact .inr e'
    · left; simp [e]
theorem Hd.putObj (H : Hd s w L) {b : Nat} {o : Obj} (i : Nat) (hi : L[i]? = some (pt b o)) (o' : Obj) : Hd s (w.putObj b o') (L.set i (pt b o')) :=
  H.change i hi (World.putObj_heap_same (Array.getElem?_eq_some_iff.1 (H.obj i hi)).1) (fun k hk => World.putObj_heap_other hk) ⟨rfl, rfl, rfl⟩
theorem Hd.setCell (H : Hd s w L) {b off : Nat} {cs : Array Value} {t : TypeId} {f : Nat × Nat} (i : Nat) (hi : L[i]? = some (pt b (.cells cs t f))) (v : Value) :
    Hd s (w.setCell ⟨b, off, none⟩ v) (L.set i (pt b (.cells (cs.setIfInBounds off v) t f))) := by
  have hb := H.obj i hi
  refine H.change i hi ?_ (fun k hk => Below.heap_setCell _ _ _ _ hk) ⟨rfl, rfl, rfl⟩
  obtain ⟨hlt, hk⟩ := Array.getElem?_eq_some_iff.1 hb
  show (w.heap.modify b _)[b]? = _
  rw [Array.getElem?_eq_getElem (by rw [Array.size_modify]; exact hlt), Array.getElem_modify_self, hk]
  rfl
theorem Hd.ne (H : Hd s w (p :: q :: L)) {b b' : Nat} {o o' : Obj} (h1 : ∀ h, p h → h b = some o) (h2 : ∀ h, q h → h b' = some o') : b ≠ b' := by
  obtain ⟨_, h, _, a, c, hd, rfl, ha, d, e, hde, rfl, hq, _⟩ := H
  rintro rfl
  rcases hd b with x | x
  · rw [h1 _ ha] at x; cases x
  · simp [hor, h2 _ hq] at x
theorem Hd.frozen (H : Hd s w L) {w0 : World} (i : Nat) (hi : L[i]? = some (fr w0)) : (∀ (k : Nat) (o : Obj), w0.heap[k]? = some o → w.heap[k]? = some o) := by
  obtain ⟨h, h1, h2⟩ := H.fact_at i hi
  exact fun k o hk => h1 _ _ (h2 k o hk)
theorem Hd.below {w0 : World} (H : Hd (sy w0) w L) (i : Nat) (hi : L[i]? = some (fr w0)) : Ext w0 w := by
  have hf := H.frozen i hi
  refine ⟨H.1.1, H.1.2.1, H.1.2.2, ?_, fun k hk => ?_⟩
  · rcases Nat.eq_zero_or_pos w0.heap.size with h0 | h0
    · omega
    · have := hf (w0.heap.size - 1) _ (Array.getElem?_eq_getElem (by omega))
      have := (Array.getElem?_eq_some_iff.1 this).1
      omega
  · rw [Array.getElem?_eq_getElem hk]
    exact hf k _ (Array.getElem?_eq_getElem hk)
theorem Hd.start (w : World) : Hd (sy w) w [fr w] := by
  refine ⟨⟨rfl, rfl, rfl⟩, fun i => w.heap[i]?, fun _ _ h => h, fun i => w.heap[i]?, fun _ => none, fun _ => .inr rfl, ?_, fun _ _ h => h, trivial⟩
  funext i; unfold hor; split <;> simp_all
theorem Hd.arr_head3 {a b c : Hp} (H : Hd s w (a :: b :: c :: L)) : Hd s w (b :: c :: a :: L) := H.perm ((List.Perm.swap b a _).trans ((List.Perm.swap c a L).cons b))
theorem Hd.arr_tail3 {a b c d : Hp} (H : Hd s w (a :: b :: c :: d :: L)) : Hd s w (a :: c :: d :: b :: L) := H.perm (((List.Perm.swap c b (d :: L)).trans ((List.Perm.swap d b L).cons c)).cons a)
theorem Hd.arr_tail3' {a b c : Hp} (H : Hd s w (a :: b :: c :: L)) : Hd s w (c :: a :: b :: L) := H.perm (((List.Perm.swap c b L).cons a).trans (List.Perm.swap c a (b :: L)))
/-- the entries in another order, some let go -/
theorem Hd.arr (H : Hd s w L) (ix : List Nat) (hn : ix.Nodup) (hl : ∀ i ∈ ix, i < L.length) : Hd s w (ix.map fun i => L.getD i (fun _ => True)) := by
  have key : ∀ (ix : List Nat), ix.Nodup → (∀ i ∈ ix, i < L.length) → ∃ R, L.Perm ((ix.map fun i => L.getD i (fun _ => True)) ++ R) := by
    intro ix hn hl
    have h1 : (ix ++ (List.range L.length).filter (fun i => !ix.contains i)).Perm (List.range L.length) := by
      apply (List.perm_ext_iff_of_nodup ?_ List.nodup_range).2
      · intro a
        simp only [List.mem_append, List.mem_filter, List.mem_range]
        constructor
        · rintro (h | h)
          · exact hl a h
          · exact h.1
        · intro h
          by_cases ha : a ∈ ix
          · exact .inl ha
          · exact .inr ⟨h, by simpa using ha⟩
      · refine List.nodup_append.2 ⟨hn, List.Pairwise.filter _ List.nodup_range, ?_⟩
        intro a ha b hb e
        subst e
        simp at hb
        exact hb.2 ha
    have h2 := h1.map (fun i => L.getD i (fun _ => True))
    rw [List.map_append] at h2
    refine ⟨((List.range L.length).filter (fun i => !ix.contains i)).map (fun i => L.getD i (fun _ => True)), ?_⟩
    · refine List.Perm.trans ?_ h2.symm
      have : (List.range L.length).map (fun i => L.getD i (fun _ => True)) = L := by
        apply List.ext_getElem
        · simp
        · intro i h1 h2; simp [List.getElem?_eq_getElem (show i < L.length by simpa using h2)]
      rw [this]
  obtain ⟨R, hR⟩ := key ix hn hl
  have H2 := (H.perm hR)
  have H3 : Hd s w (R ++ (ix.map fun i => L.getD i (fun _ => True))) := H2.perm List.perm_append_comm
  clear H2 hR
  induction R with
  | nil => exact H3
  | cons p R ih => exact ih H3.drop
end
end KE
