/-
  The engine of this proof, for any program: rules for walks, memory in parts, operations. No condition.
-/
import Derived.Test.YtahdodijpmkddaaE3
import Derived.ProofKit
import Derived.OpenShut
import Derived.SizedLaws
import Derived.Deep.Slices
set_option linter.unusedVariables false
set_option linter.unusedSimpArgs false
namespace KE
open Go Go.RowKit Go.ChangeShapes Go.WideShapes

/-! ### what the row's reading gives -/
section
variable {H : Type} {enc : TypeId × Value → H} {P : Program} {w : World} {held : Bool}
theorem wAll_mem {e : TypeId} {d : DataW H} : ∀ {l : List (DataW H)}, d ∈ l → ∀ n ∈ d.weights P e, n ∈ DataW.weightsAll P e l
  | x :: l, h, n, hn => by
    simp only [DataW.weightsAll, List.mem_append]
    rcases List.mem_cons.1 h with rfl | h
    · exact .inl hn
    · exact .inr (wAll_mem h n hn)
theorem spot_of {a : Addr} {v : Value} (h : w.cell? a = some v) : a.spot = none := by
  unfold World.cell? at h
  split at h
  · split at h
    · cases h
    · rename_i hs; simpa using hs
  · cases h
theorem rd_of {a : Addr} {n c : Nat} {cs : List Value} (hn : cs.length = n) (hb : n ≤ 140737488355328) (h : ∀ j u, cs[j]? = some u → w.cell? (a.add j) = some u) : RdC w (.slice (some a) n c) 1 n cs := by
  refine ⟨⟨by omega, hb⟩, ?_⟩
  rcases Nat.eq_zero_or_pos n with h0 | h0
  · subst h0; exact .inl ⟨rfl, _, _, rfl⟩
  · right
    have h1 := h 0 _ (List.getElem?_eq_getElem (by omega))
    have h2 : a.spot = none := spot_of (by simpa [Addr.add] using h1)
    obtain ⟨b, o, s⟩ := a
    simp only at h2
    subst h2
    exact ⟨b, o, c, rfl, fun j u hj => by rw [← add_plain]; exact h j u hj⟩
theorem cap_le {t e : TypeId} (ht : P.underlying t = some (.slice e)) (hb : 0 < P.bytesOf e) {elems spare : List (DataW H)} (hw : ∀ n ∈ (DataW.slice elems spare).weights P t, n ≤ reachBytes) : elems.length + spare.length ≤ 140737488355328 := by
  have h1 := hw ((elems.length + spare.length) * P.bytesOf e) (by simp [DataW.weights, ht])
  have h2 := Nat.le_mul_of_pos_right (elems.length + spare.length) hb
  have h3 : reachBytes ≤ 140737488355328 := by decide
  omega
theorem open_texts {t e : TypeId} {fuel : Nat} {v : Value} {x : DataW H × List MemPlace} (ht : P.underlying t = some (.slice e)) (he : P.underlying e = some .string) (hc : P.cellsOf e = 1) (hb : 0 < P.bytesOf e)
    (h : DataW.trod enc P w 0 (fun _ => true) held fuel t [v] = some x) (hw : ∀ n ∈ x.1.weights P t, n ≤ reachBytes) : ∃ ts : List ByteArray, RdL w v Value.string ts := by
  rcases open_strings ht he hc h with ⟨hcs, hx⟩ | ⟨a, len, cap, ss, hcs, _, hl, hm, hlen, hx, hcell, _⟩
  · simp only [List.cons.injEq, and_true] at hcs
    subst hcs
    exact ⟨[], ⟨⟨rfl, by simp⟩, .inl ⟨rfl, _, _, rfl⟩⟩⟩
  · simp only [List.cons.injEq, and_true] at hcs
    subst hcs hx
    simp only [if_true] at hlen
    have hcp := cap_le ht hb hw
    simp only [strs, List.length_map, List.length_take, List.length_drop] at hcp
    have hlt : (ss.take len).length = len := by rw [List.length_take]; omega
    refine ⟨ss.take len, ?_⟩
    unfold RdL
    rw [hlt]
    refine rd_of (by simp; omega) (by omega) fun j u hj => ?_
    rw [List.getElem?_map, List.getElem?_take] at hj
    split at hj
    · rename_i hjl
      obtain ⟨s, hs, rfl⟩ := Option.map_eq_some_iff.1 hj
      have hjs := (List.getElem?_eq_some_iff.1 hs).1
      rw [hcell j hjs, List.getD_eq_getElem?_getD, hs]; rfl
    · cases hj
theorem open_lists {α : Type} {t e : TypeId} {f : Value → α → Prop} {fuel : Nat} {v : Value} {x : DataW H × List MemPlace} (ht : P.underlying t = some (.slice e)) (hc : P.cellsOf e = 1) (hb : 0 < P.bytesOf e) (z : α)
    (hf : ∀ (n : Nat) (u : Value) (y : DataW H × List MemPlace), DataW.trod enc P w 0 (fun _ => true) held n e [u] = some y → (∀ n ∈ y.1.weights P e, n ≤ reachBytes) → ∃ a, f u a)
    (h : DataW.trod enc P w 0 (fun _ => true) held fuel t [v] = some x) (hw : ∀ n ∈ x.1.weights P t, n ≤ reachBytes) : ∃ (vs : List Value) (ll : List α), RdL w v id vs ∧ vs.length = ll.length ∧ ∀ (i : Nat) (u : Value) (a : α), vs[i]? = some u → ll[i]? = some a → f u a := by
  rcases Go.Deep.open_slice1 ht hc h with ⟨hcs, hx⟩ | ⟨a, len, cap, m, n, V, D, Pl, hcs, _, hl, hm, hmm, hx, hel⟩
  · simp only [List.cons.injEq, and_true] at hcs
    subst hcs
    exact ⟨[], [], ⟨⟨rfl, by simp⟩, .inl ⟨rfl, _, _, rfl⟩⟩, rfl, fun i u a hu => by simp at hu⟩
  · simp only [List.cons.injEq, and_true] at hcs
    subst hcs hx
    simp only [if_true] at hmm
    have hcp := cap_le ht hb hw
    simp only [List.length_map, List.length_range] at hcp
    have hex : ∀ i, i < len → ∃ a, f (V i) a := fun i hi => hf n (V i) _ (hel i (by omega)).2 fun k hk => hw k (by
      simp only [DataW.weights, ht, List.mem_cons, List.mem_append]
      exact .inr (.inl (wAll_mem (List.mem_map.2 ⟨i, List.mem_range.2 hi, rfl⟩) k hk)))
    refine ⟨(List.range len).map V, (List.range len).map fun i => if hi : i < len then Classical.choose (hex i hi) else z, ?_, by simp, ?_⟩
    · unfold RdL
      rw [List.map_id, List.length_map, List.length_range]
      refine rd_of (by simp) (by omega) fun j u hj => ?_
      obtain ⟨hj1, hj2⟩ := List.getElem?_eq_some_iff.1 hj
      simp at hj1 hj2
      subst hj2
      exact (hel j (by omega)).1
    · intro i u a hu ha
      obtain ⟨h1, h2⟩ := List.getElem?_eq_some_iff.1 hu
      obtain ⟨h3, h4⟩ := List.getElem?_eq_some_iff.1 ha
      simp at h1 h2 h4
      subst h2 h4
      rw [dif_pos h1]
      exact Classical.choose_spec (hex i h1)
theorem below_all (hl : laidOutB P = true) {W W' : World} (hb : Below W.heap.size W W') : ∀ {ts : List TypeId} {vs : List Value} {ds : List (DataW H)} {ps : List MemPlace}, (∀ t ∈ ts, P.readableRec t = true ∧ t < P.types.size) →
    DataW.TrodAll enc P W 0 (fun _ => true) true ts vs ds ps → (∀ x ∈ ps, x.block < W.heap.size) → DataW.TrodAll enc P W' 0 (fun b => decide (b < W.heap.size)) true ts vs ds ps
  | [], vs, ds, ps, _, h, _ => by
    obtain ⟨rfl, rfl, rfl⟩ := trodAll_nil h
    exact trodAll_mk0
  | t :: ts, vs, ds, ps, ht, h, hlt => by
    obtain ⟨v, vs', d, ds', p, q, rfl, rfl, rfl, h1, h2⟩ := trodAll_cons h
    exact trodAll_cons_mk (Below.trod hl (ht t List.mem_cons_self).1 (ht t List.mem_cons_self).2 h1 hb (fun x hx => hlt x (List.mem_append_left _ hx))) (below_all hl hb (fun t h => ht t (List.mem_cons_of_mem _ h)) h2 (fun x hx => hlt x (List.mem_append_right _ hx)))
/-- a law's row -/
theorem law_post {f : Func} {s : ChangeSpec} {apart fresh handsOn : Bool} {W W' : World} {args : Array Value} {ds : List (DataW H)} {before : List MemPlace} {tb : TypeId} (hl : laidOutB P = true) (htb : P.underlying tb = some .bool) (hres : f.resultTypes = #[tb]) (hv : s.vars = [])
    (hsp : (s.fn H (ds ++ [])).results = [.lit (.bool true)]) (hsa : (s.fn H (ds ++ [])).args = ds) (hsv : (s.fn H (ds ++ [])).vars = [])
    (hok : (f.params.toList.all fun t => P.readableRec t && Nat.blt t P.types.size) = true)
    (hW : DataW.Whole enc P f.params.toList s.vars apart W args.toList ds [] before) (hb : Below W.heap.size W W') : s.post enc P f apart fresh handsOn false W args (.bool true) W' := by
  have hlt := fun (x : MemPlace) (hx : x ∈ before) => hW.lt x hx
  have hW' := hW
  obtain ⟨p, q, hA, hV, hpq, hz, hn⟩ := hW'
  rw [hv] at hV
  obtain ⟨-, rfl⟩ := trodVars_none hV
  rw [List.append_nil] at hpq
  subst hpq
  refine ⟨ds, [], before, [], before, [], hW, ?_, ?_, ?_, hb.frame _, fun h => by cases h⟩
  · rw [hsp, hres]
    exact trodAll_mk1 (shut_bool htb _)
  · rw [hsa]
    exact below_all hl hb (fun t ht => by
      have := List.all_eq_true.1 hok t ht
      simp only [Bool.and_eq_true] at this
      exact ⟨this.1, blt_lt this.2⟩) hA (fun x hx => hlt x hx)
  · rw [hsv, hv]; rfl
end
end KE
