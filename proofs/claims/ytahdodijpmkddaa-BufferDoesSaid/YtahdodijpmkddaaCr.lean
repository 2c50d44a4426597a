/-
  Proved: the law BufferDoes of kinescopelaw22 returns true for every input, and leaves what it was given as it was; no condition beyond the given row.
-/
import Derived.Test.YtahdodijpmkddaaM6
import Derived.Test.YtahdodijpmkddaaE5
import Derived.Test.YtahdodijpmkddaaRows
set_option linter.unusedVariables false
set_option linter.unusedSimpArgs false
namespace Go.Proofs.Ytahdodijpmkddaa
open Go Go.RowKit KE Go.ChangeShapes Go.WideShapes Go.ChangeAt Go.ChangeMaps
section
variable {H : Type} {enc : TypeId × Value → H} {P : Program} {w : World} {held : Bool}
theorem add_add (a : Addr) (m n : Nat) : (a.add m).add n = a.add (m + n) := by
  unfold Addr.add
  by_cases hm : m = 0 <;> by_cases hn : n = 0 <;> simp [hm, hn, Nat.add_assoc]
theorem open_rows {α : Type} {t e : TypeId} {sz fuel : Nat} {v : Value} {x : DataW H × List MemPlace} {f : α → List Value} {φ : α → Prop} (hfl : ∀ a, (f a).length = sz) (hsz : 0 < sz) (ht : P.underlying t = some (.slice e)) (hc : P.cellsOf e = sz) (hb : 0 < P.bytesOf e) (z : α)
    (hf : ∀ (n : Nat) (cs : List Value) (y : DataW H × List MemPlace), DataW.trod enc P w 0 (fun _ => true) held n e cs = some y → (∀ n ∈ y.1.weights P e, n ≤ reachBytes) → ∃ a, cs = f a ∧ φ a)
    (h : DataW.trod enc P w 0 (fun _ => true) held fuel t [v] = some x) (hw : ∀ n ∈ x.1.weights P t, n ≤ reachBytes) : ∃ xs : List α, RdS w v sz f xs ∧ ∀ a ∈ xs, φ a := by
  rcases Go.Deep.open_slice ht h with ⟨hcs, hx⟩ | ⟨a, len, cap, m, n, D, Pl, hcs, _, hl, hm, hmm, hx, hel⟩
  · simp only [List.cons.injEq, and_true] at hcs
    subst hcs
    exact ⟨[], ⟨⟨by simp, by simp⟩, .inl ⟨rfl, _, _, rfl⟩⟩, fun a h => by cases h⟩
  · simp only [List.cons.injEq, and_true] at hcs
    subst hcs hx
    simp only [if_true] at hmm
    have hcp := cap_le ht hb hw
    simp only [List.length_map, List.length_range] at hcp
    have hex : ∀ i, i < len → ∃ b, (∀ r, r < sz → w.cell? (a.add (i * sz + r)) = (f b)[r]?) ∧ φ b := fun i hi => by
      obtain ⟨cs, h1, h2⟩ := hel i (by omega)
      obtain ⟨b, rfl, hφ⟩ := hf n cs _ h2 fun k hk => hw k (by
        simp only [DataW.weights, ht, List.mem_cons, List.mem_append]
        exact .inr (.inl (wAll_mem (List.mem_map.2 ⟨i, List.mem_range.2 hi, rfl⟩) k hk)))
      refine ⟨b, fun r hr => ?_, hφ⟩
      have := (World.cells?_some h1).2.2 r (by omega)
      rw [← this, hc, add_add]
    refine ⟨(List.range len).map fun i => if hi : i < len then Classical.choose (hex i hi) else z, ?_, ?_⟩
    · have hlen : ((List.range len).map fun i => if hi : i < len then Classical.choose (hex i hi) else z).length = len := by simp
      have hget : ∀ i b, ((List.range len).map fun i => if hi : i < len then Classical.choose (hex i hi) else z)[i]? = some b → ∀ r, r < sz → w.cell? (a.add (i * sz + r)) = (f b)[r]? := fun i b hib => by
        obtain ⟨h1, h2⟩ := List.getElem?_eq_some_iff.1 hib
        simp at h1 h2
        rw [dif_pos h1] at h2
        subst h2
        exact (Classical.choose_spec (hex i h1)).1
      generalize ((List.range len).map fun i => if hi : i < len then Classical.choose (hex i hi) else z) = xs at hlen hget
      unfold RdS
      have hflen := flat_len hfl xs
      have hcell : ∀ j u, (xs.flatMap f)[j]? = some u → w.cell? (a.add j) = some u := fun j u hj => by
        have hjl := (List.getElem?_eq_some_iff.1 hj).1
        rw [hflen] at hjl
        have hi : j / sz < xs.length := Nat.div_lt_of_lt_mul (by rw [Nat.mul_comm]; exact hjl)
        have hr : j % sz < sz := Nat.mod_lt _ hsz
        obtain ⟨b, hb2⟩ := lt_get hi
        have hdm : j / sz * sz + j % sz = j := by rw [Nat.mul_comm]; exact Nat.div_add_mod j sz
        obtain ⟨u2, hu2⟩ := lt_get (show j % sz < (f b).length by rw [hfl]; exact hr)
        have h1 := flat_get hfl hb2 hu2
        rw [hdm, hj] at h1
        have h2 := hget _ b hb2 _ hr
        rw [hdm, hu2] at h2
        rw [h2, h1]
      refine ⟨⟨hflen, by omega⟩, ?_⟩
      rcases Nat.eq_zero_or_pos xs.length with h0 | h0
      · exact .inl ⟨h0, some a, cap, by rw [← hlen, h0]⟩
      · right
        have hpos : 0 < (xs.flatMap f).length := by rw [hflen]; exact Nat.mul_pos h0 hsz
        have h1 := hcell 0 _ (List.getElem?_eq_getElem hpos)
        have h2 : a.spot = none := spot_of (by simpa [Addr.add] using h1)
        obtain ⟨b, o, s⟩ := a
        simp only at h2
        subst h2
        exact ⟨b, o, cap, by rw [hlen], fun j u hj => by rw [← KE.add_plain]; exact hcell j u hj⟩
    · intro b hb2
      obtain ⟨i, hi, rfl⟩ := List.mem_map.1 hb2
      have hi := List.mem_range.1 hi
      rw [dif_pos hi]
      exact (Classical.choose_spec (hex i hi)).2
theorem read_str {fuel : Nat} {cs : List Value} {y : DataW H × List MemPlace} {t : TypeId} (ht : P.underlying t = some .string) (h : DataW.trod enc P w 0 (fun _ => true) held fuel t cs = some y) (hw : ∀ n ∈ y.1.weights P t, n ≤ reachBytes) : ∃ s : ByteArray, cs = [S s] ∧ s.size ≤ 140737488355328 := by
  obtain ⟨s, rfl, rfl, _⟩ := DataW.trod_string ht h
  refine ⟨s, rfl, ?_⟩
  have := hw s.data.toList.length (by simp [DataW.weights])
  have h3 : reachBytes ≤ 140737488355328 := by decide
  have h4 : s.data.toList.length = s.size := by rw [Array.length_toList]; rfl
  omega
theorem read_int {fuel : Nat} {cs : List Value} {y : DataW H × List MemPlace} {t : TypeId} (ht : P.underlying t = some (.int .i64)) (h : DataW.trod enc P w 0 (fun _ => true) held fuel t cs = some y) : ∃ n : Int, cs = [I n] := by
  obtain ⟨n, rfl, _⟩ := DataW.trod_int ht h
  exact ⟨n, rfl⟩
theorem field_w {fs : Array Field} {t : TypeId} {ys : List (DataW H × List MemPlace)} {z : List MemPlace} (ht : P.underlying t = some (.struct fs)) (hw : ∀ n ∈ (DataW.agg (ys.map (·.1)) : DataW H).weights P t, n ≤ reachBytes) (i : Nat) {f : Field} {y : DataW H × List MemPlace} (hf : fs[i]? = some f) (hy : ys[i]? = some y) : ∀ n ∈ y.1.weights P f.type, n ≤ reachBytes := fun n hn => hw n (by
  simp only [DataW.weights, ht]
  exact DataW.weights_mem_each (j := i) (t := f.type) (by simp [hf]) (by simp [hy]) n hn)
end
theorem c3_ : Try.prog.cellsOf 3 = 1 := by kernel_rfl
theorem c9_ : Try.prog.cellsOf 9 = 1 := by kernel_rfl
theorem c82_ : Try.prog.cellsOf 82 = 1 := by kernel_rfl
theorem c84_ : Try.prog.cellsOf 84 = 3 := by kernel_rfl
theorem c86_ : Try.prog.cellsOf 86 = 4 := by kernel_rfl
theorem c31_ : Try.prog.cellsOf 31 = 1 := by kernel_rfl
theorem c33_ : Try.prog.cellsOf 33 = 5 := by kernel_rfl
theorem c35_ : Try.prog.cellsOf 35 = 8 := by kernel_rfl
theorem cut3 {cs : List Value} (h : cs.length = 3) : cs = (cs.drop 0).take 1 ++ ((cs.drop 1).take 1 ++ (cs.drop 2).take 1) := by
  match cs, h with | [a, b, c], _ => rfl
theorem cut4 {cs : List Value} (h : cs.length = 4) : cs = (cs.drop 0).take 1 ++ (cs.drop 1).take 3 := by
  match cs, h with | [a, b, c, d], _ => rfl
theorem cut5 {cs : List Value} (h : cs.length = 5) : cs = (cs.drop 0).take 1 ++ ((cs.drop 1).take 1 ++ ((cs.drop 2).take 1 ++ ((cs.drop 3).take 1 ++ (cs.drop 4).take 1))) := by
  match cs, h with | [a, b, c, d, e], _ => rfl
theorem last5 {cs : List Value} (h : cs.length = 5) : ∃ pv, (cs.drop 4).take 1 = [pv] := by
  match cs, h with | [a, b, c, d, e], _ => exact ⟨e, rfl⟩
theorem cut8 {cs : List Value} (h : cs.length = 8) : cs = (cs.drop 0).take 1 ++ ((cs.drop 1).take 1 ++ ((cs.drop 2).take 1 ++ (cs.drop 3).take 5)) := by
  match cs, h with | [a, b, c, d, e, f, g, i], _ => rfl
section
variable {H : Type} {enc : TypeId × Value → H} {w : World} {held : Bool}
theorem some_of {α : Type} {o : Option α} {l : List α} {i : Nat} (h : o = l[i]?) (hi : i < l.length) : ∃ y, o = some y ∧ l[i]? = some y := by
  obtain ⟨y, hy⟩ := lt_get hi
  exact ⟨y, h.trans hy, hy⟩
theorem read_val {fuel : Nat} {cs : List Value} {y : DataW H × List MemPlace} (h : DataW.trod enc Try.prog w 0 (fun _ => true) held fuel 84 cs = some y) (hw : ∀ n ∈ y.1.weights Try.prog 84, n ≤ reachBytes) : ∃ (a b : Int) (s : ByteArray), cs = [I a, I b, S s] ∧ s.size ≤ 140737488355328 := by
  obtain ⟨ys, n, rfl, rfl, hl, hys, hfd⟩ := DataW.trod_struct Try.underlying84 h
  rw [c84_] at hl
  have h0 : DataW.trod enc Try.prog w 0 (fun _ => true) held n 82 ((cs.drop 0).take (Try.prog.cellsOf 82)) = ys[0]? := hfd 0 _ rfl
  rw [c82_] at h0
  have h1 : DataW.trod enc Try.prog w 0 (fun _ => true) held n 3 ((cs.drop 1).take (Try.prog.cellsOf 3)) = ys[1]? := hfd 1 _ rfl
  rw [c3_] at h1
  have h2 : DataW.trod enc Try.prog w 0 (fun _ => true) held n 9 ((cs.drop 2).take (Try.prog.cellsOf 9)) = ys[2]? := hfd 2 _ rfl
  rw [c9_] at h2
  obtain ⟨y0, g0, k0⟩ := some_of h0 (by rw [hys]; decide)
  obtain ⟨y1, g1, k1⟩ := some_of h1 (by rw [hys]; decide)
  obtain ⟨y2, g2, k2⟩ := some_of h2 (by rw [hys]; decide)
  obtain ⟨a, ha⟩ := read_int Try.underlying82 g0
  obtain ⟨b, hb⟩ := read_int Try.underlying3 g1
  obtain ⟨s, hs, hss⟩ := read_str Try.underlying9 g2 (field_w Try.underlying84 (z := []) hw 2 rfl k2)
  exact ⟨a, b, s, by rw [cut3 hl, ha, hb, hs]; rfl, hss⟩
theorem read_prop {fuel : Nat} {cs : List Value} {y : DataW H × List MemPlace} (h : DataW.trod enc Try.prog w 0 (fun _ => true) held fuel 86 cs = some y) (hw : ∀ n ∈ y.1.weights Try.prog 86, n ≤ reachBytes) : ∃ p : Pr, cs = prC p ∧ p.key.size ≤ 140737488355328 ∧ p.text.size ≤ 140737488355328 := by
  obtain ⟨ys, n, rfl, rfl, hl, hys, hfd⟩ := DataW.trod_struct Try.underlying86 h
  rw [c86_] at hl
  have h0 : DataW.trod enc Try.prog w 0 (fun _ => true) held n 9 ((cs.drop 0).take (Try.prog.cellsOf 9)) = ys[0]? := hfd 0 _ rfl
  rw [c9_] at h0
  have h1 : DataW.trod enc Try.prog w 0 (fun _ => true) held n 84 ((cs.drop 1).take (Try.prog.cellsOf 84)) = ys[1]? := hfd 1 _ rfl
  rw [c84_] at h1
  obtain ⟨y0, g0, k0⟩ := some_of h0 (by rw [hys]; decide)
  obtain ⟨y1, g1, k1⟩ := some_of h1 (by rw [hys]; decide)
  obtain ⟨s, hs, hss⟩ := read_str Try.underlying9 g0 (field_w Try.underlying86 (z := []) hw 0 rfl k0)
  obtain ⟨a, b, u, hu, huu⟩ := read_val g1 (field_w Try.underlying86 (z := []) hw 1 rfl k1)
  exact ⟨⟨s, a, b, u⟩, by rw [cut4 hl, hs, hu]; rfl, hss, huu⟩
theorem read_props {fuel : Nat} {v : Value} {y : DataW H × List MemPlace} (h : DataW.trod enc Try.prog w 0 (fun _ => true) held fuel 31 [v] = some y) (hw : ∀ n ∈ y.1.weights Try.prog 31, n ≤ reachBytes) : ∃ xs : List Pr, RdS w v 4 prC xs ∧ ∀ p ∈ xs, p.key.size ≤ 140737488355328 ∧ p.text.size ≤ 140737488355328 :=
  open_rows prC_len (by decide) Try.underlying31 c86_ (of_decide_eq_true (by kernel_rfl)) ⟨⟨#[]⟩, 0, 0, ⟨#[]⟩⟩ (fun n cs y hy hn => read_prop hy hn) h hw
theorem read_edge {fuel : Nat} {cs : List Value} {y : DataW H × List MemPlace} (h : DataW.trod enc Try.prog w 0 (fun _ => true) held fuel 33 cs = some y) (hw : ∀ n ∈ y.1.weights Try.prog 33, n ≤ reachBytes) :
    ∃ (e : Ed) (x : Eg), cs = edC e ∧ EdR w e x ∧ (∀ p ∈ x.props, p.key.size ≤ 140737488355328 ∧ p.text.size ≤ 140737488355328) ∧ x.src.size ≤ 140737488355328 ∧ x.dst.size ≤ 140737488355328 ∧ x.lab.size ≤ 140737488355328 := by
  obtain ⟨ys, n, rfl, rfl, hl, hys, hfd⟩ := DataW.trod_struct Try.underlying33 h
  rw [c33_] at hl
  have h0 : DataW.trod enc Try.prog w 0 (fun _ => true) held n 9 ((cs.drop 0).take (Try.prog.cellsOf 9)) = ys[0]? := hfd 0 _ rfl
  rw [c9_] at h0
  have h1 : DataW.trod enc Try.prog w 0 (fun _ => true) held n 9 ((cs.drop 1).take (Try.prog.cellsOf 9)) = ys[1]? := hfd 1 _ rfl
  rw [c9_] at h1
  have h2 : DataW.trod enc Try.prog w 0 (fun _ => true) held n 9 ((cs.drop 2).take (Try.prog.cellsOf 9)) = ys[2]? := hfd 2 _ rfl
  rw [c9_] at h2
  have h3 : DataW.trod enc Try.prog w 0 (fun _ => true) held n 3 ((cs.drop 3).take (Try.prog.cellsOf 3)) = ys[3]? := hfd 3 _ rfl
  rw [c3_] at h3
  have h4 : DataW.trod enc Try.prog w 0 (fun _ => true) held n 31 ((cs.drop 4).take (Try.prog.cellsOf 31)) = ys[4]? := hfd 4 _ rfl
  rw [c31_] at h4
  obtain ⟨y0, g0, k0⟩ := some_of h0 (by rw [hys]; decide)
  obtain ⟨y1, g1, k1⟩ := some_of h1 (by rw [hys]; decide)
  obtain ⟨y2, g2, k2⟩ := some_of h2 (by rw [hys]; decide)
  obtain ⟨y3, g3, k3⟩ := some_of h3 (by rw [hys]; decide)
  obtain ⟨y4, g4, k4⟩ := some_of h4 (by rw [hys]; decide)
  obtain ⟨a, ha, haa⟩ := read_str Try.underlying9 g0 (field_w Try.underlying33 (z := []) hw 0 rfl k0)
  obtain ⟨b, hb, hbb⟩ := read_str Try.underlying9 g1 (field_w Try.underlying33 (z := []) hw 1 rfl k1)
  obtain ⟨c, hc, hcc⟩ := read_str Try.underlying9 g2 (field_w Try.underlying33 (z := []) hw 2 rfl k2)
  obtain ⟨t, ht⟩ := read_int Try.underlying3 g3
  obtain ⟨pv, hpv⟩ : ∃ pv, (cs.drop 4).take 1 = [pv] := last5 hl
  rw [hpv] at g4
  obtain ⟨xs, hx1, hx2⟩ := read_props g4 (field_w Try.underlying33 (z := []) hw 4 rfl k4)
  exact ⟨⟨a, b, c, t, pv⟩, ⟨a, b, c, t, xs⟩, by rw [cut5 hl, ha, hb, hc, ht, hpv]; rfl, ⟨rfl, rfl, rfl, rfl, hx1⟩, hx2, haa, hbb, hcc⟩
theorem read_deed {fuel : Nat} {cs : List Value} {y : DataW H × List MemPlace} (h : DataW.trod enc Try.prog w 0 (fun _ => true) held fuel 35 cs = some y) (hw : ∀ n ∈ y.1.weights Try.prog 35, n ≤ reachBytes) : ∃ d : Dd, cs = ddC d ∧ DOk w d := by
  obtain ⟨ys, n, rfl, rfl, hl, hys, hfd⟩ := DataW.trod_struct Try.underlying35 h
  rw [c35_] at hl
  have h0 : DataW.trod enc Try.prog w 0 (fun _ => true) held n 3 ((cs.drop 0).take (Try.prog.cellsOf 3)) = ys[0]? := hfd 0 _ rfl
  rw [c3_] at h0
  have h1 : DataW.trod enc Try.prog w 0 (fun _ => true) held n 3 ((cs.drop 1).take (Try.prog.cellsOf 3)) = ys[1]? := hfd 1 _ rfl
  rw [c3_] at h1
  have h2 : DataW.trod enc Try.prog w 0 (fun _ => true) held n 3 ((cs.drop 2).take (Try.prog.cellsOf 3)) = ys[2]? := hfd 2 _ rfl
  rw [c3_] at h2
  have h3 : DataW.trod enc Try.prog w 0 (fun _ => true) held n 33 ((cs.drop 3).take (Try.prog.cellsOf 33)) = ys[3]? := hfd 3 _ rfl
  rw [c33_] at h3
  obtain ⟨y0, g0, k0⟩ := some_of h0 (by rw [hys]; decide)
  obtain ⟨y1, g1, k1⟩ := some_of h1 (by rw [hys]; decide)
  obtain ⟨y2, g2, k2⟩ := some_of h2 (by rw [hys]; decide)
  obtain ⟨y3, g3, k3⟩ := some_of h3 (by rw [hys]; decide)
  obtain ⟨a, ha⟩ := read_int Try.underlying3 g0
  obtain ⟨b, hb⟩ := read_int Try.underlying3 g1
  obtain ⟨c, hc⟩ := read_int Try.underlying3 g2
  obtain ⟨e, x, he, hE, q1, q2, q3, q4⟩ := read_edge g3 (field_w Try.underlying35 (z := []) hw 3 rfl k3)
  exact ⟨⟨a, b, c, e, x⟩, by rw [cut8 hl, ha, hb, hc, he]; rfl, hE, q1, q2, q3, q4⟩
theorem read_deeds {fuel : Nat} {v : Value} {y : DataW H × List MemPlace} (h : DataW.trod enc Try.prog w 0 (fun _ => true) held fuel 22 [v] = some y) (hw : ∀ n ∈ y.1.weights Try.prog 22, n ≤ reachBytes) : ∃ ds : List Dd, RdS w v 8 ddC ds ∧ ∀ d ∈ ds, DOk w d :=
  open_rows ddC_len (by decide) Try.underlying22 c35_ (of_decide_eq_true (by kernel_rfl)) ⟨0, 0, 0, ⟨⟨#[]⟩, ⟨#[]⟩, ⟨#[]⟩, 0, .slice none 0 0⟩, zG⟩ (fun n cs y hy hn => read_deed hy hn) h hw
end
theorem own : ownKnob Try.prog.godebug = none := by kernel_rfl
theorem laidOut : laidOutB Try.prog = true := by kernel_rfl
set_option maxRecDepth 100000 in
theorem bufferDoes_lifted (os : Os) (started : os.Started) (H : Type) (enc : TypeId × Value → H) :
    ReturnsInHanded {} Try.checked os 3 .any (Rows.bufferDoesSpec.pre6 enc Try.prog Try.f3 Rows.bufferDoesRow.domain false) (Rows.bufferDoesSpec.post enc Try.prog Try.f3 false true false false) := by
  refine returnsInHanded_of_change_sized (C := Try.checked) own started (by kernel_rfl) Try.func3
    (ChangeSpec.witness6 (enc := enc) (C := Try.checked) false ⟨#[], #[.slice none 0 0], []⟩ 8 (by kernel_rfl) (by kernel_rfl) (by kernel_rfl) (by kernel_rfl)) ?_
  intro W base args ds gs before hval0 hW _ hsz _
  have hval : ∀ (j : Nat) t v, Try.f3.params[j]? = some t → args[j]? = some v → Value.okWide Try.prog W .any base t v := hval0
  have hW' := hW
  obtain ⟨p, q, hA0, hV, rfl, hfz, hnd⟩ := hW
  have hA : DataW.TrodAll enc Try.prog W 0 (fun _ => true) true Try.f3.params.toList args.toList ds p := hA0
  rw [Try.params3] at hA hval
  obtain ⟨v0, d0, rfl, rfl, h0⟩ := trodAll_one hA
  obtain ⟨rfl, rfl⟩ := trodVars_none hV
  obtain ⟨a, len, cap, rfl⟩ := okWide_slice Try.underlying22 (hval 0 22 v0 rfl rfl)
  obtain ⟨fuel, hf⟩ := h0
  obtain ⟨dd, hL, hD⟩ := read_deeds hf (fun n hn => by
    have := List.all_eq_true.1 hsz n (DataW.weights_mem_each (j := 0) (t := 22) rfl rfl n hn)
    simpa using this)
  refine (CC.calls (c3 W hL hD)).mono fun e W' ⟨v, he, hv, hb⟩ => ?_
  subst hv
  exact ⟨_, he, law_post laidOut Try.underlying4 (by kernel_rfl) rfl rfl rfl rfl (by kernel_rfl) hW' hb⟩
theorem bufferDoes_holds : Rows.BufferDoesSaid :=
  OpenClaim.holds_of_wide 3 Try.f3 rfl rfl rfl rfl rfl rfl rfl ⟨rfl, rfl, rfl, rfl, rfl⟩ rfl rfl rfl rfl rfl (by kernel_rfl) Try.func3 (by kernel_rfl)
    (of_decide_eq_true (by kernel_rfl)) (by unfold Func.isWrapper; first | (rw [if_pos (by decide +kernel)]; kernel_rfl) | (rw [if_neg (by decide +kernel)]; exact ⟨rfl, rfl⟩))
    (fun os started H enc _ => bufferDoes_lifted os started H enc)
end Go.Proofs.Ytahdodijpmkddaa
#print axioms Go.Proofs.Ytahdodijpmkddaa.bufferDoes_holds
