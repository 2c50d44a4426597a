/-
  The engine of this proof, for any program: scopes, structs, texts of bytes. No condition.
-/
import Derived.Test.YtpoahelomhjnaaaKEi
import Derived.Scope
set_option linter.unusedVariables false
set_option linter.unusedSimpArgs false
namespace KE
open Go Go.RowKit

section
variable {P : Program} {b : Frame} {a : Act} {k : List Item} {cs : List Frame} {w : World}
theorem stepR_scope {c : Code} : step P (lone (b.atR a (.code (.scope c) :: k)) cs w) = .next (lone (b.atR a (.code c :: .inScope c :: k)) cs w) :=
  step_lone_go (by simp [stepG, stepG.exec, Frame.atR])
theorem stepR_inScope {c : Code} : step P (lone (b.atR a (.inScope c :: k)) cs w) = .next (lone (b.atR a k) cs w) :=
  step_lone_go (by simp [stepG, stepG.exec, Frame.atR])
end
def scopeE (Q : QE) : QE
  | .goto _ => fun _ _ _ => False
  | e => Q e
theorem WC.scope {P : Program} {r : Option Nat} {N : Nat} {Q : QE} {ρ : Nat → Value} {ds : List Nat} {w : World} {c : Code} (h : WC P r N c (scopeE Q) ρ ds w) : WC P r N (.scope c) Q ρ ds w := fun a ha => by
  intro b k cs hro hb hr
  have h0 : (lone (b.atR a (.code (.scope c) :: k)) cs w).fenced P (Fe r) := fenced_calm hb hr rfl
  obtain ⟨e, a₁, w₁, ⟨ρ', ds', f, q⟩, harr⟩ := h a ha b (.inScope c :: k) cs hro hb hr
  have hx : ∀ id, exitTo id (.inScope c :: k) = exitTo id k := fun id => by simp [exitTo]
  cases e with
  | normal => exact ⟨.normal, a₁, w₁, ⟨ρ', ds', f, q⟩, .head h0 stepR_scope (StepsIn.trans harr (.one (fenced_calm hb hr rfl) stepR_inScope))⟩
  | exit id => exact ⟨.exit id, a₁, w₁, ⟨ρ', ds', f, q⟩, fun k' hk => .head h0 stepR_scope (harr.1 k' (by rw [hx]; exact hk)),
      fun hr' hk => let ⟨k₁, h1, h2⟩ := harr.2 hr' (by rw [hx]; exact hk); ⟨k₁, h1, .head h0 stepR_scope h2⟩⟩
  | goto l => exact q.elim
  | ret => exact ⟨_, a₁, w₁, ⟨ρ', ds', f, q⟩, .of_steps (.one h0 stepR_scope) harr⟩
  | panic ch => exact ⟨_, a₁, w₁, ⟨ρ', ds', f, q⟩, .of_steps (.one h0 stepR_scope) harr⟩
  | outgrown => exact ⟨_, a₁, w₁, ⟨ρ', ds', f, q⟩, .of_steps (b := b) (k := k) (cs := cs) (e := .outgrown) (.one h0 stepR_scope) harr⟩

section
variable {P : Program} {w : World} {ρ : Nat → Value} {d : Option Tmp} {ty : TypeId} {ps : String} {af : Array Edge} {g : Option (Nat × Bool)} {s : Sy} {L : List Hp} {K : Value → World → Prop}
theorem x_build {t : TypeId} {fs : Array Field} {parts : Array (Nat × Operand)} {z : Value} {sz by_ : Nat} {places : Array (Nat × Nat)} {cells : Array Value} (ht : P.underlying t = some (.struct fs)) (hy : Ty P t z sz by_)
    (hpl : ∀ w, (fs.mapM (fun (f : Field) => (do pure (f.offset, ← Go.sizeOf f.type) : Sem (Nat × Nat)))).run P w = .ok places w) (hf : Instr.fill (places[·]?) z.cells (parts.map fun p => (p.1, ev ρ p.2)).toList = some cells) :
    (execOp (ev ρ) ⟨d, .build t parts, ty, ps, af, g⟩).run P w = .ok (.value (.agg cells)) w := by
  simp only [execOp, Instr.build, Sem.run_bind, hy.zero, run_under ht, Result.andThen, hpl]
  rw [hf]
  simp [Sem.run_pure]
theorem eql_fn_nil {t : TypeId} {ps' rs : Array TypeId} {v : Bool} {fn : Fn} {c1 c2 : Array Value} (ht : P.underlying t = some (.func ps' rs v)) : (Op.equal t (.func fn c1 c2) .nilFunc).run P w = .ok false w := by
  have : ∀ n, (Op.equalIn (n + 1) t (.func fn c1 c2) .nilFunc).run P w = .ok false w := fun n => by
    simp [Op.equalIn, Sem.run_bind, run_under ht, Result.andThen, Sem.run_pure]
  exact this 9999
theorem x_eqlFN {t t2 : TypeId} {x : Operand} {ps' rs : Array TypeId} {v : Bool} {fn : Fn} {c1 c2 : Array Value} (ht : P.underlying t = some (.func ps' rs v)) (hx : ev ρ x = .func fn c1 c2) : (execOp (ev ρ) ⟨d, .binOp .eql t x (.const .nilFunc) t2, ty, ps, af, g⟩).run P w = .ok (.value (.bool false)) w := by
  refine x_cmp (b := .nilFunc) hx rfl (by simp [eqGuard, Sem.run_pure]) ?_
  simp [binOp, Sem.run_bind, eql_fn_nil (P := P) (w := w) ht, Result.andThen, Sem.run_pure]
/-- bytes become a text -/
theorem bytes_loop (vs : List Int) (hv : ∀ v ∈ vs, 0 ≤ v ∧ v < 256) : ∀ (acc : ByteArray) (w : World), (forIn (m := Sem) (vs.map fun v => Value.int .u8 v).toArray acc (fun c s => do
      let .int .u8 n := c | stuck "bytesToString: byte expected"
      pure (.yield (s.push (UInt8.ofNat n.toNat))))).run P w = .ok (vs.foldl (fun s v => s.push (UInt8.ofNat v.toNat)) acc) w := by
  intro acc w
  rw [← Array.forIn_toList]
  simp only []
  induction vs generalizing acc with
  | nil => rfl
  | cons v vs ih =>
    simp only [List.map_cons, List.forIn_cons, Sem.run_bind, Sem.run_pure, Result.andThen, List.foldl_cons]
    exact ih (fun u hu => hv u (List.mem_cons_of_mem _ hu)) _
theorem x_convBS {t u e : TypeId} {x : Operand} {v : Value} {n : Nat} {vs : List Int} (ht : P.underlying t = some (.slice e)) (he : P.underlying e = some (.int .u8)) (hu : P.underlying u = some .string) (hx : ev ρ x = v) (hr : RdL w v (.int .u8) vs) (hv : ∀ v ∈ vs, 0 ≤ v ∧ v < 256) :
    (execOp (ev ρ) ⟨d, .convert t u x, ty, ps, af, g⟩).run P w = .ok (.value (.string (vs.foldl (fun s v => s.push (UInt8.ofNat v.toNat)) ByteArray.empty))) w := by
  subst hx
  obtain ⟨⟨h1, hb⟩, ⟨h2, a, c, h3⟩ | ⟨b, o, c, h3, h4⟩⟩ := hr
  · have : vs = [] := List.eq_nil_of_length_eq_zero h2
    subst this
    cases a with
    | none => simp [execOp, convert, Sem.run_bind, run_under ht, run_under hu, run_under he, h3, Result.andThen, Conv.bytesToString, Sem.run_pure]
    | some a =>
      simp [execOp, convert, Sem.run_bind, run_under ht, run_under hu, run_under he, h3, Result.andThen, Conv.bytesToString, loadCells, loadCellsFrom, Sem.run_pure]
  · have hl := run_loadCells (P := P) (w := w) (a := ⟨b, o, none⟩) (vs := vs.map (.int .u8)) (n := vs.length) (by simp) (fun j u hj => by rw [add_plain]; exact h4 j u hj)
    have hloop := bytes_loop (P := P) vs hv ByteArray.empty w
    simp only [execOp, convert, Sem.run_bind, run_under ht, run_under hu, run_under he, h3, Result.andThen, Conv.bytesToString, hl, Sem.run_pure]
    have e1 : (vs.map (Value.int .u8)).toArray = (vs.map fun v => Value.int .u8 v).toArray := rfl
    rw [e1]
    erw [hloop]
end
end KE
namespace KE
open Go Go.RowKit
section
variable {P : Program} {w : World} {ρ : Nat → Value} {d : Option Tmp} {ty : TypeId} {ps : String} {af : Array Edge} {g : Option (Nat × Bool)} {s : Sy} {L : List Hp} {K : Value → World → Prop}
theorem s_build1 {t e : TypeId} {x : Operand} {z u : Value} {by_ : Nat} (ht : P.underlying t = some (.slice e)) (hy : Ty P e z 1 by_) (hz : z.cells.size = 1) (hx : ev ρ x = u) (h1 : oneC u = true)
    (H : Hd s w L) (k : ∀ b w', Hd s w' (Sl (.slice (some ⟨b, 0, none⟩) 1 1) e 1 1 [u] :: L) → K (.slice (some ⟨b, 0, none⟩) 1 1) w') : St P ⟨d, .buildSlice t 1 #[(0, x)], ty, ps, af, g⟩ ρ w K := by
  have hc : u.cells = #[u] := by cases u <;> first | rfl | (simp [Value.oneCell'] at h1)
  refine s_buildSlice (cells := #[u]) ht hy (by omega) (by omega) ?_ rfl H k
  simp [hx, Instr.fill, hc]
  apply Array.ext
  · simp
  · intro i h1 h2
    have : i = 0 := by simp at h2; omega
    subst this; simp
theorem s_build1A {t e : TypeId} {x : Operand} {z : Value} {vs : List Value} {sz by_ : Nat} (ht : P.underlying t = some (.slice e)) (hy : Ty P e z sz by_) (hz : z.cells.size = sz) (hs0 : 0 < sz) (hs1 : sz ≤ 1000) (hx : ev ρ x = .agg vs.toArray) (hn : vs.length = sz)
    (H : Hd s w L) (k : ∀ b w', Hd s w' (Sl (.slice (some ⟨b, 0, none⟩) 1 1) e sz 1 vs :: L) → K (.slice (some ⟨b, 0, none⟩) 1 1) w') : St P ⟨d, .buildSlice t 1 #[(0, x)], ty, ps, af, g⟩ ρ w K := by
  refine s_buildSlice (cells := vs.toArray) ht hy (by omega) (by omega) ?_ (by simp [hn]) H (by simpa using k)
  have key : ∀ (vs : List Value) (off : Nat) (cs : Array Value), off + vs.length = cs.size → (vs.zipIdx.foldl (fun (cs : Array Value) (p : Value × Nat) => cs.setIfInBounds (off + p.2) p.1) cs) = (cs.toList.take off ++ vs).toArray := by
    intro vs
    have gen : ∀ (vs : List Value) (k off : Nat) (cs : Array Value), off + k + vs.length = cs.size → ((vs.zipIdx k).foldl (fun (cs : Array Value) (p : Value × Nat) => cs.setIfInBounds (off + p.2) p.1) cs) = (cs.toList.take (off + k) ++ vs).toArray := by
      intro vs
      induction vs with
      | nil =>
        intro k off cs h
        simp only [List.zipIdx_nil, List.foldl_nil, List.append_nil]
        rw [List.take_of_length_le (by simp at h ⊢; omega)]
      | cons v vs ih =>
        intro k off cs h
        simp only [List.zipIdx_cons, List.foldl_cons]
        rw [ih (k + 1) off _ (by simp at h ⊢; omega)]
        congr 1
        simp only [Array.toList_setIfInBounds]
        have hlt : off + k < cs.toList.length := by simp at h ⊢; omega
        rw [show off + (k + 1) = off + k + 1 from by omega, List.take_succ_eq_append_getElem (by simpa using hlt)]
        simp [List.take_set]
        exact List.set_eq_of_length_le (by rw [List.length_take]; omega)
    intro off cs h
    have := gen vs 0 off cs (by simpa using h)
    simpa using this
  have hI : ((Array.range (1 * sz)).map fun x => z.cells[x % z.cells.size]!).size = sz := by simp
  generalize ((Array.range (1 * sz)).map fun x => z.cells[x % z.cells.size]!) = I at hI
  simp only [List.map_toArray, List.map_cons, List.map_nil, hx]
  show (if (decide (vs.toArray.size ≠ sz) || decide (0 * sz + vs.toArray.size > I.size)) = true then none else Instr.fill (fun i => some (i * sz, sz)) (vs.toArray.zipIdx.foldl (fun (cs : Array Value) (p : Value × Nat) => cs.setIfInBounds (0 * sz + p.2) p.1) I) []) = some vs.toArray
  rw [if_neg (by simp [hn, hI]), ← Array.foldl_toList]
  simp only [Nat.zero_mul, Array.toList_zipIdx, Instr.fill]
  rw [key vs 0 I (by simp [hn, hI])]
  simp
theorem x_look {κ : Type} [DecidableEq κ] {kt : TypeId} {t et : TypeId} {x y : Operand} {m : Nat} {es : Array MapEntry} {cl : Nat} {l : List (κ × Value)} {k : κ} {z : Value} {sz by_ : Nat} {c : Bool} {rr : Option Value} (T : KT P kt κ) (ht : P.underlying t = some (.map kt et)) (hy : Ty P et z sz by_) (hx : ev ρ x = .map (some m)) (hk : ev ρ y = T.kv k) (hm : w.heap[m]? = some (.map es cl)) (hv : MV T.kv es l) (hr : alook k l = rr) :
    (execOp (ev ρ) ⟨d, .lookup t x y c, ty, ps, af, g⟩).run P w = .ok (.value (lkV c z rr)) w := by subst hr; exact x_lookup T ht hy hx hk hm hv
end
end KE
