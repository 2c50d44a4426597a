/-
  What functions of this seat do: contracts, proved by walks; each with the conditions that it names.
-/
import Derived.Test.YtpoahelomhjnaaaN4
set_option linter.unusedVariables false
set_option linter.unusedSimpArgs false
namespace Go.Proofs.Ytpoahelomhjnaaa
open Go Go.RowKit KE Go.Proofs
/-! ### texts that are added -/
def add1 (us : List ByteArray) (t : ByteArray) : List ByteArray := if t ∈ us then us else us ++ [t]
def addL (ts texts : List ByteArray) : List ByteArray := texts.foldl add1 ts
def newsA (ts : List ByteArray) : List ByteArray → List ByteArray → List ByteArray
  | acc, [] => acc
  | acc, t :: r => if t ∈ ts ∨ t ∈ acc then newsA ts acc r else newsA ts (acc ++ [t]) r
abbrev news (ts texts : List ByteArray) : List ByteArray := newsA ts [] texts
theorem newsA_pre (ts : List ByteArray) : ∀ (texts acc : List ByteArray), ∃ r, newsA ts acc texts = acc ++ r
  | [], acc => ⟨[], by simp [newsA]⟩
  | t :: texts, acc => by
    unfold newsA
    split
    · exact newsA_pre ts texts acc
    · obtain ⟨r, h⟩ := newsA_pre ts texts (acc ++ [t])
      exact ⟨t :: r, by rw [h]; simp⟩
theorem newsA_len (ts : List ByteArray) : ∀ (texts acc : List ByteArray), (newsA ts acc texts).length ≤ acc.length + texts.length
  | [], acc => by simp [newsA]
  | t :: texts, acc => by
    unfold newsA
    split
    · have := newsA_len ts texts acc; simp; omega
    · have := newsA_len ts texts (acc ++ [t]); simp at this ⊢; omega
theorem addL_newsA (ts : List ByteArray) : ∀ (texts acc : List ByteArray), addL (ts ++ acc) texts = ts ++ newsA ts acc texts
  | [], acc => rfl
  | t :: texts, acc => by
    show addL (add1 (ts ++ acc) t) texts = _
    unfold newsA add1
    simp only [List.mem_append]
    split
    · exact addL_newsA ts texts acc
    · rw [List.append_assoc]; exact addL_newsA ts texts (acc ++ [t])
theorem addL_news (ts texts : List ByteArray) : addL ts texts = ts ++ news ts texts := by simpa using addL_newsA ts texts []
theorem newsA_nodup (ts : List ByteArray) : ∀ (texts acc : List ByteArray), (ts ++ acc).Nodup → (ts ++ newsA ts acc texts).Nodup
  | [], acc, h => h
  | t :: texts, acc, h => by
    unfold newsA
    split
    · exact newsA_nodup ts texts acc h
    · rename_i hn
      refine newsA_nodup ts texts (acc ++ [t]) ?_
      rw [← List.append_assoc]
      rw [List.nodup_append] at h ⊢
      refine ⟨List.nodup_append.2 h, by simp, ?_⟩
      intro a ha b hb
      simp at hb
      subst hb
      intro e; subst e
      exact hn (List.mem_append.1 ha)
theorem news_nodup {ts : List ByteArray} (h : ts.Nodup) (texts : List ByteArray) : (ts ++ news ts texts).Nodup := newsA_nodup ts texts [] (by simpa using h)
theorem addL_nodup {ts : List ByteArray} (h : ts.Nodup) (texts : List ByteArray) : (addL ts texts).Nodup := by rw [addL_news]; exact news_nodup h texts
theorem addL_pre : ∀ (texts ts : List ByteArray), ∃ r, addL ts texts = ts ++ r := fun texts ts => ⟨_, addL_news ts texts⟩
theorem addL_app (ts a b : List ByteArray) : addL ts (a ++ b) = addL (addL ts a) b := by simp [addL]
theorem addL_len (ts texts : List ByteArray) : (addL ts texts).length ≤ ts.length + texts.length := by
  rw [addL_news]; have := newsA_len ts texts []; simp at this ⊢; omega
theorem mem_addL : ∀ {texts ts : List ByteArray} {t : ByteArray}, t ∈ texts → t ∈ addL ts texts
  | u :: texts, ts, t, h => by
    rcases List.mem_cons.1 h with rfl | h
    · obtain ⟨r, hr⟩ := addL_pre texts (add1 ts t)
      show t ∈ addL (add1 ts t) texts
      rw [hr]
      refine List.mem_append_left _ ?_
      unfold add1; split
      · assumption
      · simp
    · exact mem_addL (ts := add1 ts u) h
theorem fIdx_app {us vs : List ByteArray} {t : ByteArray} (h : t ∈ us) : fIdx (us ++ vs) t = fIdx us t := by
  rw [fIdx, fIdx, if_pos h, if_pos (List.mem_append_left _ h), List.idxOf_append, if_pos h]
theorem fIdx_new {us : List ByteArray} {t : ByteArray} (h : ¬ t ∈ us) : fIdx (us ++ [t]) t = (us.length : Int) := by
  rw [fIdx, if_pos (by simp), List.idxOf_append, if_neg h]; simp
theorem fIdx_addL {us texts : List ByteArray} {t : ByteArray} (h : t ∈ us) : fIdx (addL us texts) t = fIdx us t := by
  obtain ⟨r, hr⟩ := addL_pre texts us; rw [hr]; exact fIdx_app h
theorem add1_mem (us : List ByteArray) (t : ByteArray) : t ∈ add1 us t := by unfold add1; split <;> simp_all
theorem aset_new {l : List (ByteArray × Value)} {k : ByteArray} {v : Value} (h : alook k l = none) : aset k v l = l ++ [(k, v)] := by
  induction l with
  | nil => rfl
  | cons p l ih =>
    simp only [alook] at h
    split at h
    · cases h
    · rename_i hn
      simp only [aset, if_neg hn, ih h, List.cons_append]
theorem ents_succ {us : List ByteArray} {t : ByteArray} (h : ¬ t ∈ us) : aset t (.int .i64 (us.length : Nat)) (ents us) = ents (us ++ [t]) := by
  rw [aset_new (by rw [alook_ents, if_neg h])]
  simp [ents, List.zipIdx_append]
def seenL (pre : List ByteArray) : List (ByteArray × Value) := pre.map fun t => (t, .int .i64 1)
theorem alook_seen (t : ByteArray) : ∀ pre, alook t (seenL pre) = if t ∈ pre then some (.int .i64 1) else none
  | [] => by simp [seenL, alook]
  | u :: pre => by
    simp only [seenL, List.map_cons, alook]
    by_cases h : t = u
    · subst h; simp
    · rw [if_neg h]
      have := alook_seen t pre
      simp only [seenL] at this
      rw [this]; simp [h]
theorem seen_succ {pre : List ByteArray} {t : ByteArray} (h : ¬ t ∈ pre) : aset t (.int .i64 1) (seenL pre) = seenL (pre ++ [t]) := by
  rw [aset_new (by rw [alook_seen, if_neg h])]; simp [seenL]
/-- a step of the new texts -/
theorem news_take {ts texts : List ByteArray} {k : Nat} {t : ByteArray} (ht : texts[k]? = some t) :
    newsA ts [] (texts.take (k + 1)) = if t ∈ ts ∨ t ∈ newsA ts [] (texts.take k) then newsA ts [] (texts.take k) else newsA ts [] (texts.take k) ++ [t] := by
  have hk := (List.getElem?_eq_some_iff.1 ht).1
  rw [List.take_succ_eq_append_getElem hk, (List.getElem?_eq_some_iff.1 ht).2]
  have : ∀ (a acc : List ByteArray), newsA ts acc (a ++ [t]) = if t ∈ ts ∨ t ∈ newsA ts acc a then newsA ts acc a else newsA ts acc a ++ [t] := by
    intro a
    induction a with
    | nil => intro acc; by_cases h : t ∈ ts ∨ t ∈ acc <;> simp [newsA, h]
    | cons u a ih =>
      intro acc
      simp only [List.cons_append, newsA]
      split
      · exact ih acc
      · exact ih _
  exact this _ _
theorem news_split {ts texts : List ByteArray} {k : Nat} (hk : k ≤ texts.length) : ∃ r, news ts texts = newsA ts [] (texts.take k) ++ r := by
  have : ∀ (a b acc : List ByteArray), newsA ts acc (a ++ b) = newsA ts (newsA ts acc a) b := by
    intro a b
    induction a with
    | nil => intro acc; rfl
    | cons u a ih => intro acc; simp only [List.cons_append, newsA]; split <;> exact ih _
  obtain ⟨r, hr⟩ := newsA_pre ts (texts.drop k) (newsA ts [] (texts.take k))
  exact ⟨r, by rw [← hr, ← this, List.take_append_drop]⟩
end Go.Proofs.Ytpoahelomhjnaaa
