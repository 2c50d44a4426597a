/-
  Proved: the law NameOne of kinescopelaw02 returns true for every input, and leaves what it was given as it was; no condition beyond the given row.
-/
import Derived.Test.YtpoahelomhjnaaaNd
import Derived.Test.YtpoahelomhjnaaaKEr
import Derived.Test.YtpoahelomhjnaaaRows
set_option linter.unusedVariables false
namespace Go.Proofs.Ytpoahelomhjnaaa
open Go Go.RowKit KE Go.ChangeShapes Go.WideShapes Go.ChangeAt Go.ChangeMaps
theorem own4 : ownKnob Try.prog.godebug = none := by kernel_rfl
theorem laidOut4 : laidOutB Try.prog = true := by kernel_rfl
section
variable {H : Type} {enc : TypeId × Value → H} {w : World}
theorem read_LL4 {fuel : Nat} {v : Value} {x : DataW H × List MemPlace} (h : DataW.trod enc Try.prog w 0 (fun _ => true) true fuel 22 [v] = some x) (hw : ∀ n ∈ x.1.weights Try.prog 22, n ≤ reachBytes) : ∃ ll, LL w v ll := by
  obtain ⟨vs, ll, h1, h2, h3⟩ := open_lists (f := fun u (ts : List ByteArray) => RdL w u S ts) Try.underlying22 (by kernel_rfl) (of_decide_eq_true (by kernel_rfl)) [] (fun n u y hy hn => open_texts Try.underlying29 Try.underlying9 (by kernel_rfl) (of_decide_eq_true (by kernel_rfl)) hy hn) h hw
  exact ⟨ll, vs, h1, h2, h3⟩
end
set_option maxRecDepth 100000 in
theorem nameOne_lifted (os : Os) (started : os.Started) (H : Type) (enc : TypeId × Value → H) :
    ReturnsInHanded {} Try.checked os 4 .any (Rows.nameOneSpec.pre6 enc Try.prog Try.f4 Rows.nameOneRow.domain false) (Rows.nameOneSpec.post enc Try.prog Try.f4 false true false false) := by
  refine returnsInHanded_of_change_sized (C := Try.checked) own4 started (by kernel_rfl) Try.func4
    (ChangeSpec.witness6 (enc := enc) (C := Try.checked) false ⟨#[], #[.slice none 0 0], []⟩ 8 (by kernel_rfl) (by kernel_rfl) (by kernel_rfl) (by kernel_rfl)) ?_
  intro W base args ds gs before hval0 hW _ hsz _
  have hval : ∀ (j : Nat) t v, Try.f4.params[j]? = some t → args[j]? = some v → Value.okWide Try.prog W .any base t v := hval0
  have hW' := hW
  obtain ⟨p, q, hA0, hV, rfl, hfz, hnd⟩ := hW
  have hA : DataW.TrodAll enc Try.prog W 0 (fun _ => true) true Try.f4.params.toList args.toList ds p := hA0
  rw [Try.params4] at hA hval
  obtain ⟨v0, d0, rfl, rfl, h0⟩ := trodAll_one hA
  obtain ⟨rfl, rfl⟩ := trodVars_none hV
  obtain ⟨a, len, cap, rfl⟩ := okWide_slice Try.underlying22 (hval 0 22 v0 rfl rfl)
  obtain ⟨fuel, hf⟩ := h0
  obtain ⟨ll, hL⟩ := read_LL4 hf (fun n hn => by
    have := List.all_eq_true.1 hsz n (DataW.weights_mem_each (j := 0) (t := 22) rfl rfl n hn)
    simpa using this)
  refine (CC.calls (c4 W hL)).mono fun e W' ⟨v, he, hv, hb⟩ => ?_
  subst hv
  exact ⟨_, he, law_post laidOut4 Try.underlying4 (by kernel_rfl) rfl rfl rfl rfl (by kernel_rfl) hW' hb⟩
theorem nameOne_holds : Rows.NameOneSaid :=
  OpenClaim.holds_of_wide 4 Try.f4 rfl rfl rfl rfl rfl rfl rfl ⟨rfl, rfl, rfl, rfl, rfl⟩ rfl rfl rfl rfl rfl (by kernel_rfl) Try.func4 (by kernel_rfl)
    (of_decide_eq_true (by kernel_rfl)) (by unfold Func.isWrapper; first | (rw [if_pos (by decide +kernel)]; kernel_rfl) | (rw [if_neg (by decide +kernel)]; exact ⟨rfl, rfl⟩))
    (fun os started H enc _ => nameOne_lifted os started H enc)
end Go.Proofs.Ytpoahelomhjnaaa
