/-
  The engine of this proof, for any program: rules for walks, memory in parts, operations. No condition.
-/
import Derived.Test.YteibnmkikdbndaaGreatDoorE3
import Derived.Sort.Row
import Derived.Sort.Grow
import Derived.Laws.BitsAllLaws
import Derived.Lib.Builder
import Derived.Laws.Concat
import Derived.Deep.Draws
import Derived.Deep.OwnRows
set_option linter.unusedVariables false
set_option linter.unusedSimpArgs false
namespace KE
open Go Go.RowKit
section
variable {P : Program} {w : World} {s : Sy} {L : List Hp}
/-- a fact and parts of memory -/
def PH (φ : Prop) (A : List Hp) : Hp := fun m => φ ∧ sep A m
theorem PH.opn {φ : Prop} {A : List Hp} (H : Hd s w (PH φ A :: L)) : φ ∧ Hd s w (A ++ L) := by
  obtain ⟨h, H⟩ := Hd.unand (φ := φ) (p := sep A) H
  exact ⟨h, H.unsep⟩
theorem PH.mk {φ : Prop} {A : List Hp} (h : φ) (H : Hd s w (A ++ L)) : Hd s w (PH φ A :: L) := (Hd.sep H).weak fun m hm => ⟨h, hm⟩
theorem Hd.no (H : Hd s w ((fun _ => False) :: L)) : False := by obtain ⟨h, _, hF⟩ := H.fact; exact hF
/-- a fact and parts of memory, of something -/
def PX {α : Type} (φ : α → Prop) (A : α → List Hp) : Hp := fun m => ∃ x, φ x ∧ sep (A x) m
theorem PX.opn {α : Type} {φ : α → Prop} {A : α → List Hp} (H : Hd s w (PX φ A :: L)) : ∃ x, φ x ∧ Hd s w (A x ++ L) := by
  obtain ⟨x, H⟩ := Hd.unex (p := fun x => PH (φ x) (A x)) H
  exact ⟨x, PH.opn H⟩
theorem PX.mk {α : Type} {φ : α → Prop} {A : α → List Hp} (x : α) (h : φ x) (H : Hd s w (A x ++ L)) : Hd s w (PX φ A :: L) := (Hd.sep H).weak fun m hm => ⟨x, h, hm⟩
end
/-! ### rows that the library turns -/
section
variable {P : Program} {w : World} {s : Sy} {L : List Hp}
theorem Hd.slB {b o c n sz e : Nat} {cs : List Value} (H : Hd s w L) (i : Nat) (hi : L[i]? = some (Sl (.slice (some ⟨b, o, none⟩) n c) e sz n cs)) :
    ∃ all : Array Value, (cs.length = n * sz ∧ n ≤ 140737488355328) ∧ n ≤ c ∧ o + c * sz ≤ all.size ∧ (∀ j u, cs[j]? = some u → all[o + j]? = some u) ∧ Hd s w (pt b (.cells all e (0, 0)) :: L.eraseIdx i) := by
  obtain ⟨hl, H1⟩ := Hd.unand (H.pick i hi)
  obtain ⟨⟨b', o', c', all⟩, ⟨hv, hn, hc, hr⟩, H2⟩ := Hd.opn (φ := fun q => SlB (.slice (some ⟨b, o, none⟩) n c) e sz n cs q) (q := fun q => pt q.1 (.cells q.2.2.2 e (0, 0))) H1 (fun x hx => by
    rcases hx with ⟨h, _⟩ | h
    · cases h
    · exact h)
  clear H1
  cases hv
  exact ⟨all, hl, hn, hc, hr, H2⟩
theorem Hd.holds {b o c n sz e : Nat} {cs : List Value} (H : Hd s w L) (i : Nat) (hi : L[i]? = some (Sl (.slice (some ⟨b, o, none⟩) n c) e sz n cs)) : Sort.Holds id w b o cs.toArray ∧ b < w.heap.size := by
  obtain ⟨all, hl, hn, hc, hr, H1⟩ := Hd.slB H i hi
  have hb := H1.obj 0 rfl
  refine ⟨fun j hj => ⟨?_, free_of hb⟩, (Array.getElem?_eq_some_iff.1 hb).1⟩
  have hj' : j < cs.length := by simpa using hj
  have : (cs.toArray)[j]! = cs[j] := by simp [hj']
  rw [this]
  exact cell_of hb (hr j _ (List.getElem?_eq_getElem hj'))
theorem holds_map {α : Type} [Inhabited α] {enc : α → Value} {d : List α} {b o : Nat} (h : Sort.Holds id w b o (d.map enc).toArray) : Sort.Holds enc w b o d.toArray := fun j hj => by
  have := h j (by simpa using hj)
  have hj' : j < d.length := by simpa using hj
  have e1 : ((d.map enc).toArray)[j]! = enc d[j] := by simp [hj']
  have e2 : (d.toArray)[j]! = d[j] := by simp [hj']
  rw [e1] at this; rw [e2]; exact this
theorem putRow_map {α : Type} [Inhabited α] (enc : α → Value) (d : List α) (b o : Nat) : Sort.putRow enc w b o d.toArray = Sort.putRow id w b o (d.map enc).toArray := by
  unfold Sort.putRow
  refine Sort.mapBlock_congr _ _ _ _ fun c _ _ _ => ?_
  apply Array.ext_getElem?
  intro k
  simp only [Sort.putCells, Array.getElem?_mapIdx, List.size_toArray, List.length_map]
  cases c[k]? with
  | none => rfl
  | some y =>
    simp only [Option.map_some]
    by_cases h : o ≤ k ∧ k < o + d.length
    · rw [if_pos h, if_pos h]
      have hj : k - o < d.length := by omega
      simp [hj]
    · rw [if_neg h, if_neg h]
theorem Hd.putRow {b o c n sz e : Nat} {cs cs' : List Value} (H : Hd s w L) (i : Nat) (hi : L[i]? = some (Sl (.slice (some ⟨b, o, none⟩) n c) e sz n cs)) (hl' : cs'.length = cs.length) :
    Hd s (Sort.putRow id w b o cs'.toArray) (L.set i (Sl (.slice (some ⟨b, o, none⟩) n c) e sz n cs')) := by
  obtain ⟨all, hl, hn, hc, hr, H1⟩ := Hd.slB H i hi
  have hb := H1.obj 0 rfl
  have hlt := (Array.getElem?_eq_some_iff.1 hb).1
  refine Hd.back hi (Hd.weak (H1.change (w' := Sort.putRow id w b o cs'.toArray) 0 rfl (o' := .cells (Sort.putCells id o cs'.toArray all) e (0, 0)) ?_ (fun k hk => ?_) ⟨rfl, rfl, rfl, rfl⟩) fun h hp => ⟨⟨by rw [hl', hl.1], hl.2⟩, .inr ⟨(b, o, c, Sort.putCells id o cs'.toArray all), ⟨rfl, hn, by simpa [Sort.putCells] using hc, ?_⟩, hp⟩⟩)
  · show (w.heap.modify b _)[b]? = _
    rw [Array.getElem?_modify, if_pos rfl, hb]; rfl
  · show (w.heap.modify b _)[k]? = _
    rw [Array.getElem?_modify, if_neg (Ne.symm hk)]
  · intro j u hj
    have hj' : j < cs'.length := (List.getElem?_eq_some_iff.1 hj).1
    have hja : o + j < all.size := by
      have : n * sz ≤ c * sz := Nat.mul_le_mul_right sz hn
      omega
    simp only [Sort.putCells, Array.getElem?_mapIdx]
    rw [Array.getElem?_eq_getElem hja, Option.map_some, if_pos ⟨by omega, by simp; omega⟩, show o + j - o = j by omega]
    have e2 : (cs'.toArray)[j]! = cs'[j] := by simp [hj']
    rw [e2]
    rw [← (List.getElem?_eq_some_iff.1 hj).2]; rfl
theorem Ext.grow (w : World) (os : Array Obj) : Ext w (Sort.grow w os) := ⟨rfl, rfl, rfl, by simp [Sort.grow], fun k hk => by
  show (w.heap ++ os)[k]? = _
  rw [Array.getElem?_append_left hk]⟩
theorem Hd.grew [NoEx s] (H : Hd s w L) (os : Array Obj) : Hd s (Sort.grow w os) L := H.ext (Ext.grow w os)
theorem Hd.ahead (H : Hd s w L) (n : Nat) : Hd s (Sort.ahead w n) L := H.drawnUp rfl rfl rfl rfl (Nat.le_add_right _ _)
theorem CC.of_calls {f : FuncId} {args : Array Value} {R : Value → World → Prop} (h : Calls P f args w fun e w' => ∃ v, e = .returned v ∧ R v w') : CC P f args w R := callsIn_wide.2 h
/-- a slice cut short -/
theorem Hd.cutTo {b o c n sz e : Nat} {cs : List Value} (H : Hd s w L) (i : Nat) (hi : L[i]? = some (Sl (.slice (some ⟨b, o, none⟩) n c) e sz n cs)) {m : Nat} (hm : m ≤ n) :
    Hd s w (L.set i (Sl (.slice (some ⟨b, o, none⟩) m c) e sz m (cs.take (m * sz)))) := by
  obtain ⟨all, hl, hn, hc, hr, H1⟩ := Hd.slB H i hi
  refine Hd.back hi (Hd.weak H1 fun h hp => ⟨⟨by rw [List.length_take, hl.1]; exact Nat.min_eq_left (Nat.mul_le_mul_right sz hm), by omega⟩, .inr ⟨(b, o, c, all), ⟨rfl, (show m ≤ c by omega), hc, fun j u hj => hr j u ?_⟩, hp⟩⟩)
  rw [List.getElem?_take] at hj
  split at hj
  · exact hj
  · cases hj
end
/-! ### sets of bits -/
section
variable {P : Program} {w : World} {ρ : Nat → Value} {d : Option Tmp} {ty : TypeId} {ps : String} {af : Array Edge} {g : Option (Nat × Bool)} {s : Sy} {L : List Hp} {K : Value → World → Prop}
abbrev U (x : Nat) : Value := .int .u32 (x : Int)
theorem x_orU {t t2 : TypeId} {x y : Operand} {a b : Nat} (hx : ev ρ x = U a) (hy : ev ρ y = U b) (ha : a < 4294967296) (hb : b < 4294967296) :
    (execOp (ev ρ) ⟨d, .binOp .or t x y t2, ty, ps, af, g⟩).run P w = .ok (.value (U (a ||| b))) w := x_bin hx hy (by
  show (Op.intBits .or .u32 (a : Int) (b : Int)).run P w = _
  rw [intBits_or, Sem.run_pure, u32_or_nat a b ha hb])
theorem x_andU {t t2 : TypeId} {x y : Operand} {a b : Nat} (hx : ev ρ x = U a) (hy : ev ρ y = U b) (ha : a < 4294967296) (hb : b < 4294967296) :
    (execOp (ev ρ) ⟨d, .binOp .and t x y t2, ty, ps, af, g⟩).run P w = .ok (.value (U (a &&& b))) w := x_bin hx hy (by
  show (Op.intBits .and .u32 (a : Int) (b : Int)).run P w = _
  rw [intBits_and, Sem.run_pure, u32_and_nat a b ha hb])
theorem x_andNotU {t t2 : TypeId} {x y : Operand} {a b : Nat} (hx : ev ρ x = U a) (hy : ev ρ y = U b) (ha : a < 4294967296) (hb : b < 4294967296) :
    (execOp (ev ρ) ⟨d, .binOp .andNot t x y t2, ty, ps, af, g⟩).run P w = .ok (.value (U (a &&& (4294967295 - b)))) w := x_bin hx hy (by
  show (Op.intBits .andNot .u32 (a : Int) (b : Int)).run P w = _
  rw [intBits_andNot, Sem.run_pure, u32_andNot_nat a b ha hb])
theorem x_subU1 {t t2 : TypeId} {x y : Operand} {a : Nat} (hx : ev ρ x = U a) (hy : ev ρ y = U 1) (h1 : 0 < a) (ha : a < 4294967296) :
    (execOp (ev ρ) ⟨d, .binOp .sub t x y t2, ty, ps, af, g⟩).run P w = .ok (.value (U (a - 1))) w := x_bin hx hy (by
  have e : IntKind.u32.wrap ((a : Int) - ((1 : Nat) : Int)) = ((a - 1 : Nat) : Int) := by
    rw [IntKind.wrap_u32']; omega
  simp only [binOp, Op.intArith]
  simp only [if_false, ne_eq, not_true_eq_false, Sem.run_pure]
  rw [e])
theorem x_shlU {t t2 : TypeId} {x y : Operand} {p : Nat} (hx : ev ρ x = U 1) (hy : ev ρ y = .int .i64 (p : Int)) (hp : p ≤ 24) :
    (execOp (ev ρ) ⟨d, .binOp .shl t x y t2, ty, ps, af, g⟩).run P w = .ok (.value (U (2 ^ p))) w := by
  have hg : (eqGuard .shl t x y (U 1) (.int .i64 (p : Int))).run P w = .ok () w := by simp [eqGuard, Sem.run_pure]
  have key : ∀ q : Fin 25, IntKind.u32.wrap (((1 : Nat) : Int) * 2 ^ (min (((q.val : Nat) : Int).toNat) IntKind.u32.bits)) = ((2 ^ q.val : Nat) : Int) := by decide
  have e := key ⟨p, by omega⟩
  simp only [execOp, hx, hy, Sem.run_bind, hg, binOp, Op.shift, show ¬ (p : Int) < 0 by omega, Result.andThen, Sem.run_pure, if_false]
  rw [e]
end
section
variable {P : Program} {w : World} {ρ : Nat → Value} {d : Option Tmp} {ty : TypeId} {ps : String} {af : Array Edge} {g : Option (Nat × Bool)} {s : Sy} {L : List Hp} {K : Value → World → Prop}
theorem x_indexAddrAr {t e : TypeId} {x ix : Operand} {b o n i : Nat} {k : IntKind} {z : Value} {sz by_ : Nat} (ht : P.underlying t = some (.array n e)) (hy : Ty P e z sz by_) (hx : ev ρ x = .pointer (some ⟨b, o, none⟩)) (hi : ev ρ ix = .int k (i : Int)) (h1 : i < n) :
    (execOp (ev ρ) ⟨d, .indexAddr t x ix, ty, ps, af, g⟩).run P w = .ok (.value (.pointer (some ⟨b, o + i * sz, none⟩))) w := by
  simp [execOp, Instr.indexAt, Instr.sureAddr, hx, hi, asIntOf, Sem.run_bind, Result.andThen, Sem.run_pure, run_under ht, hy.size, h1, add_plain]
end
section
variable {P : Program} {w : World} {ρ : Nat → Value} {d : Option Tmp} {ty : TypeId} {ps : String} {af : Array Edge} {g : Option (Nat × Bool)} {s : Sy} {L : List Hp} {K : Value → World → Prop} {kt : TypeId} {κ : Type} [DecidableEq κ]
theorem x_addS {t t2 : TypeId} {x y : Operand} {a b : ByteArray} (hx : ev ρ x = .string a) (hy : ev ρ y = .string b) (h : a.size + b.size ≤ 9223372036854775807) :
    (execOp (ev ρ) ⟨d, .binOp .add t x y t2, ty, ps, af, g⟩).run P w = .ok (.value (.string (a ++ b))) w := x_binS hx hy (run_string_add_sum w a b h)
theorem IsBuilder.ext {T e : TypeId} {B b : Nat} {bs : List Value} {w w' : World} (h : Lib.IsBuilder T e B b bs w) (k : Ext w w') : Lib.IsBuilder T e B b bs w' := by
  have key : ∀ p, Lib.BuilderAt T e B b p bs w → Lib.BuilderAt T e B b p bs w' := by
    rintro p hp
    have hlt := hp.lt
    obtain ⟨hB, v, hb, ho, hne⟩ := hp
    refine ⟨hB, v, (k.block b hlt).trans hb, ?_, hne⟩
    exact ho.kept (row := none) ⟨k.os, k.tape, k.output, k.size, fun i hi _ => k.block i hi⟩ (by cases hv : v.ownBlock <;> simp)
  exact h.imp (key _) (key _)
/-! ### memory that stays: more of it -/
def none0 : Sub := fun _ => none
theorem Hd.fz0 (H : Hd s w L) : Hd s w (KE.fz none0 :: L) := by
  obtain ⟨h0, h, hs, hL⟩ := H
  refine ⟨h0, h, hs, fun _ => none, h, fun _ => .inl rfl, ?_, (fun i o hi => by cases (show (none : Option Obj) = some o from hi)), hL⟩
  funext i; simp [hor]
theorem Fx.and {g : Sub} {Φ Ψ : World → Prop} (h : Fx g Φ) (k : Fx g Ψ) : Fx g (fun w => Φ w ∧ Ψ w) := fun w hw => ⟨h w hw, k w hw⟩
/-! ### maps that are read -/
/-- memory holds the map -/
def MpR {P : Program} {kt : TypeId} (T : KT P kt κ) (m : Nat) (l : List (κ × Value)) (w : World) : Prop := ∃ es cl, w.heap[m]? = some (.map es cl) ∧ MV T.kv es l ∧ Stamps es cl
theorem MpR.old {T : KT P kt κ} {m : Nat} {l : List (κ × Value)} {w w' : World} (h : MpR T m l w) (o : Old w w') : MpR T m l w' := by
  obtain ⟨es, cl, h1, h2⟩ := h; exact ⟨es, cl, o m _ h1, h2⟩
theorem MpR.of {T : KT P kt κ} {m : Nat} {l : List (κ × Value)} {h : Sub} (hs : hsub h w) (k : Mp T m l h) : MpR T m l w := by
  obtain ⟨⟨es, cl⟩, ⟨h1, h2⟩, h3⟩ := k; exact ⟨es, cl, hs _ _ h3, h1, h2⟩
theorem x_lookR {t et : TypeId} {x y : Operand} {m : Nat} {l : List (κ × Value)} {k : κ} {z u : Value} {sz by_ : Nat} {c : Bool} (T : KT P kt κ) (ht : P.underlying t = some (.map kt et)) (hy : Ty P et z sz by_) (hx : ev ρ x = .map (some m)) (hk : ev ρ y = T.kv k) (H : MpR T m l w) (hu : lkV c z (alook k l) = u) :
    (execOp (ev ρ) ⟨d, .lookup t x y c, ty, ps, af, g⟩).run P w = .ok (.value u) w := by
  obtain ⟨es, cl, hm, hv, _⟩ := H
  exact x_lookU T ht hy hx hk hm hv hu
/-- one's own place in a map that is read -/
def IRb {P : Program} {kt : TypeId} (T : KT P kt κ) (m b : Nat) (es : Array MapEntry) (cl : Nat) (cur : Option (κ × Value)) (rest : List (κ × Value)) : Hp := fun h => ∃ seen : Array Nat,
  ((es.toList.filter fun e => !seen.contains e.born).map (fun e => (e.key, e.val)) = rest.map (fun p => (T.kv p.1, p.2)) ∧ ∀ p, cur = some p → ∃ (e : MapEntry) (sn : Array Nat), e ∈ es.toList ∧ seen = sn.push e.born ∧ e.key = T.kv p.1 ∧ e.val = p.2) ∧ pt b (.mapIter (some m) cl seen cl) h
theorem s_rangeR {t et : TypeId} {x : Operand} {m : Nat} {es : Array MapEntry} {cl : Nat} {l : List (κ × Value)} (T : KT P kt κ) (ht : P.underlying t = some (.map kt et)) (hm : w.heap[m]? = some (.map es cl)) (hv : MV T.kv es l) (hx : ev ρ x = .map (some m)) (H : Hd s w L)
    (k : ∀ b w', Hd s w' (IRb T m b es cl none l :: L) → K (.pointer (some ⟨b, 0, none⟩)) w') : St P ⟨d, .range t x, ty, ps, af, g⟩ ρ w K := by
  refine ⟨trivial, ?_⟩
  have : (execOp (ev ρ) ⟨d, .range t x, ty, ps, af, g⟩).run P w = .ok (.value (.pointer (some ⟨w.heap.size, 0, none⟩))) (w.alloc (.mapIter (some m) cl #[] cl)) := by
    simp [execOp, Instr.range, hx, Sem.run_bind, run_under ht, Result.andThen, Sem.run_pure, getObj, Sem.run, hm]
  rw [this]
  refine k _ _ (Hd.weak (H.alloc _) fun h hh => ⟨#[], ⟨?_, fun p hp => by cases hp⟩, hh⟩)
  have : (es.toList.filter fun e => !(#[] : Array Nat).contains e.born) = es.toList := List.filter_eq_self.2 (fun e _ => by simp)
  rw [this]; exact hv
theorem s_nextR {x : Operand} {m b : Nat} {es : Array MapEntry} {cl : Nat} {cur : Option (κ × Value)} {rest : List (κ × Value)} (T : KT P kt κ) (i : Nat) (hi : L[i]? = some (IRb T m b es cl cur rest)) (hm : w.heap[m]? = some (.map es cl)) (hs : Stamps es cl) (hx : ev ρ x = .pointer (some ⟨b, 0, none⟩)) (H : Hd s w L)
    (k1 : ∀ p A B w', rest = A ++ p :: B → Hd s w' (L.set i (IRb T m b es cl (some p) (A ++ B))) → K (.tuple #[.bool true, T.kv p.1, p.2]) w')
    (k0 : rest = [] → K (.tuple #[.bool false]) w) : St P ⟨d, .next x false, ty, ps, af, g⟩ ρ w K := by
  obtain ⟨seen, ⟨hr, hc⟩, H1⟩ := Hd.opn (φ := fun seen : Array Nat => (es.toList.filter fun e => !seen.contains e.born).map (fun e => (e.key, e.val)) = rest.map (fun p => (T.kv p.1, p.2)) ∧ ∀ p, cur = some p → ∃ (e : MapEntry) (sn : Array Nat), e ∈ es.toList ∧ seen = sn.push e.born ∧ e.key = T.kv p.1 ∧ e.val = p.2) (q := fun seen => pt b (.mapIter (some m) cl seen cl)) (H.pick i hi) (fun x hx => hx)
  have hb := H1.obj 0 rfl
  have hleft : (Go.leftOf es seen).toList = es.toList.filter fun e => !seen.contains e.born := by
    simp [Go.leftOf]
  refine ⟨trivial, ?_⟩
  rcases run_next_at (P := P) w ty b m cl cl seen es cl hb hm (fun x hx => hs.2 x hx) (Nat.le_refl _) with ⟨h0, hrun⟩ | ⟨e, he, w1, hw1, hrun⟩
  · have h00 : rest = [] := by
      have : (es.toList.filter fun e => !seen.contains e.born) = [] := by rw [← hleft]; exact List.eq_nil_of_length_eq_zero (by simpa using h0)
      rw [this] at hr
      exact List.map_eq_nil_iff.1 hr.symm
    have : (execOp (ev ρ) ⟨d, .next x false, ty, ps, af, g⟩).run P w = .ok (.value (.tuple #[.bool false])) w := by
      simp only [execOp, Sem.run_bind, hx, hrun, Result.andThen, Sem.run_pure]
    rw [this]; exact k0 h00
  · have : (execOp (ev ρ) ⟨d, .next x false, ty, ps, af, g⟩).run P w = .ok (.value (.tuple #[.bool true, e.key, e.val])) (ChangeMaps.setBlock w1 b (.mapIter (some m) cl (seen.push e.born) cl)) := by
      simp only [execOp, Sem.run_bind, hx, hrun, Result.andThen, Sem.run_pure]
    rw [this]
    rw [hleft] at he
    obtain ⟨A', B', hsp⟩ := List.append_of_mem he
    have hrl : rest.length = A'.length + (B'.length + 1) := by
      have := congrArg List.length hr
      rw [hsp] at this; simp at this; omega
    rw [hsp, List.map_append, List.map_cons] at hr
    have hsplit : rest = rest.take A'.length ++ rest.drop A'.length := (List.take_append_drop _ _).symm
    cases hd : rest.drop A'.length with
    | nil => have := congrArg List.length hd; simp at this; omega
    | cons p B =>
      rw [hd] at hsplit
      have hr2 := hr
      rw [hsplit, List.map_append, List.map_cons] at hr2
      have hlen : (A'.map fun e => (e.key, e.val)).length = ((rest.take A'.length).map fun p => (T.kv p.1, p.2)).length := by simp; omega
      obtain ⟨hA, hB⟩ := List.append_inj hr2 hlen
      simp only [List.cons.injEq, Prod.mk.injEq] at hB
      obtain ⟨⟨hk, hval⟩, hB⟩ := hB
      rw [hk, hval]
      have hmem : e ∈ es.toList := (List.mem_filter.1 he).1
      have hnd : ((es.toList.filter fun e => !seen.contains e.born).map (·.born)).Nodup := List.Nodup.sublist (List.Sublist.map _ List.filter_sublist) hs.1
      rw [hsp, List.map_append, List.map_cons] at hnd
      obtain ⟨hn1, hn2, hn3⟩ := List.nodup_append.1 hnd
      have hfil : (es.toList.filter fun x => !(seen.push e.born).contains x.born) = A' ++ B' := by
        have : (es.toList.filter fun x => !(seen.push e.born).contains x.born) = (es.toList.filter fun e => !seen.contains e.born).filter fun x => !(x.born == e.born) := by
          rw [List.filter_filter]
          refine List.filter_congr fun x _ => ?_
          rw [Array.contains_push]
          cases seen.contains x.born <;> simp
        rw [this, hsp, List.filter_append, List.filter_cons_of_neg (by simp)]
        have hA1 : A'.filter (fun x => !(x.born == e.born)) = A' := List.filter_eq_self.2 fun x hx => by
          have := hn3 x.born (List.mem_map_of_mem hx) e.born (List.mem_cons_self)
          simpa using this
        have hB1 : B'.filter (fun x => !(x.born == e.born)) = B' := List.filter_eq_self.2 fun x hx => by
          have := (List.nodup_cons.1 hn2).1
          have h3 : x.born ≠ e.born := fun h => this (h ▸ List.mem_map_of_mem hx)
          simpa using h3
        rw [hA1, hB1]
      refine k1 p _ _ _ hsplit ?_
      have H2 : Hd s w1 (pt b (.mapIter (some m) cl seen cl) :: L.eraseIdx i) := by
        rcases hw1 with rfl | rfl
        · exact H1
        · exact H1.drew
      have H3 : Hd s (ChangeMaps.setBlock w1 b (.mapIter (some m) cl (seen.push e.born) cl)) (pt b (.mapIter (some m) cl (seen.push e.born) cl) :: L.eraseIdx i) := H2.putObj 0 rfl _
      refine Hd.back hi (Hd.weak H3 fun h hh => ⟨seen.push e.born, ⟨?_, ?_⟩, hh⟩)
      · rw [hfil, List.map_append, List.map_append, hA, hB]
      · rintro q hq
        cases hq
        exact ⟨e, seen, hmem, rfl, hk, hval⟩
theorem x_entryR {x : Operand} {m b : Nat} {es : Array MapEntry} {cl : Nat} {rest : List (κ × Value)} {p : κ × Value} (T : KT P kt κ) (H : Hd s w L) (i : Nat) (hi : L[i]? = some (IRb T m b es cl (some p) rest)) (hm : w.heap[m]? = some (.map es cl)) (hs : Stamps es cl) (hx : ev ρ x = .pointer (some ⟨b, 0, none⟩)) :
    (execOp (ev ρ) ⟨d, .entry x, ty, ps, af, g⟩).run P w = .ok (.value (.tuple #[T.kv p.1, p.2])) w := by
  obtain ⟨seen, ⟨hr, hc⟩, H1⟩ := Hd.opn (φ := fun seen : Array Nat => (es.toList.filter fun e => !seen.contains e.born).map (fun e => (e.key, e.val)) = rest.map (fun p => (T.kv p.1, p.2)) ∧ ∀ q, some p = some q → ∃ (e : MapEntry) (sn : Array Nat), e ∈ es.toList ∧ seen = sn.push e.born ∧ e.key = T.kv q.1 ∧ e.val = q.2) (q := fun seen => pt b (.mapIter (some m) cl seen cl)) (H.pick i hi) (fun x hx => hx)
  obtain ⟨e, sn, he, rfl, hk, hval⟩ := hc p rfl
  have hrun := run_entry_at (P := P) w b m cl sn es cl e (H1.obj 0 rfl) hm he hs.1
  simp only [execOp, Sem.run_bind, hx, hrun, Result.andThen, Sem.run_pure, hk, hval]
end
/-! ### a range over a function whose elements are not known ahead: ok pre x: x may come behind pre; fin xs: so they may have been all -/
def YA {α : Type} (P : Program) (s : Sy) (l : Nat) (E : α → List Value → Hp) (ok : List α → α → Prop) (J X : List α → Hp) : Prop :=
  ∀ pre x vs w L', ok pre x → Hd s w (J pre :: E x vs :: L') →
    YY P l vs.toArray w fun v w' => (v = .bool true ∧ Hd s w' (J (pre ++ [x]) :: L')) ∨ (v = .bool false ∧ Hd s w' (X (pre ++ [x]) :: L'))
def ITa {α : Type} (P : Program) (s : Sy) (f : FuncId) (caps : List Value) (E : α → List Value → Hp) (ok : List α → α → Prop) (fin : List α → Prop) (A : Hp) (B : List α → Hp) : Prop :=
  ∀ l J X w L, YA P s l E ok J X → Hd s w (J [] :: A :: L) → CC P f (.func (.yield l) #[] #[] :: caps).toArray w fun _ w' =>
    (∃ xs, fin xs ∧ Hd s w' (J xs :: B xs :: L)) ∨ ∃ pre x, ok pre x ∧ Hd s w' (X (pre ++ [x]) :: B (pre ++ [x]) :: L)
section
variable {α : Type} {P : Program} {N : Nat} {Q : QE} {ρ : Nat → Value} {ds : List Nat} {w : World} {s : Sy}
/-- the body's proof is a promise of yield -/
theorem YA.of {l : Nat} {ps : Array Tmp} {asg body : Code} {E : α → List Value → Hp} {ok : List α → α → Prop} {I : List α → Hp} {X : Code → List α → Hp} (hps : ∀ p ∈ ps.toList, p < N) (hE : ∀ x vs h, E x vs h → vs.length = ps.size)
    (hb : ∀ pre x vs w L' L2, ok pre x → (∀ w A', Hd s w (A' ++ L2) → ∃ rec, w.heap[l]? = some (.loop rec)) → Hd s w (I pre :: E x vs :: L') →
      WC P (some l) N asg (noE fun ρ1 ds1 w1 => (∃ A' : List Hp, Hd s w1 (A' ++ L')) ∧ ∀ w2, (∀ A' : List Hp, Hd s w1 (A' ++ L') → Hd s w2 (A' ++ L2)) → WC P (some l) N body (roundE s (I (pre ++ [x])) (fun c => X c (pre ++ [x])) L2) ρ1 ds1 w2) (setP ρ ps.toList vs) [] w) :
    YA P s l E ok (fun pre => star (LR N ρ ps asg body l .ready none) (I pre)) (fun pre => fun h => ∃ c, star (LR N ρ ps asg body l .done (some c)) (X c pre) h) := by
  intro pre x vs w L' hxs H
  -- the record
  have H1 : Hd s w (LR N ρ ps asg body l .ready none :: I pre :: E x vs :: L') := H.unstar
  obtain ⟨rec, ⟨hst, hpd, hpa, has, hbo, hsz, hfit⟩, H2⟩ := Hd.opn (q := fun rec => pt l (.loop rec)) H1 (fun x hx => hx)
  obtain ⟨rst, rpd, rfn, rtm, rpa, ras, rbo, rdf⟩ := rec
  simp only at hst hpd hpa has hbo hsz hfit
  subst hst hpd hpa has hbo
  have hl := H2.obj 0 rfl
  have hvs : vs.length = rpa.size := by
    obtain ⟨h, _, he⟩ := H1.fact_at 2 rfl
    exact hE x vs h he
  have hfold := setP_fits (N := N) rpa.toList vs ρ rtm hps hsz hfit
  refine ⟨rfn, (rpa.zip vs.toArray).foldl (fun tmps (t, a) => tmps.setIfInBounds t a) rtm, ras, rbo, run_yield hl (by simpa using hvs), ?_⟩
  refine roundIn_of_wpIn (F := Fe none) trivial ?_
  have htm : (rpa.zip vs.toArray).foldl (fun tmps (t, a) => tmps.setIfInBounds t a) rtm = (rpa.toList.zip vs).foldl (fun t (p : Tmp × Value) => t.setIfInBounds p.1 p.2) rtm := by
    rw [← Array.foldl_toList]; simp
  have hF : Fits N { tmps := (rpa.zip vs.toArray).foldl (fun tmps (t, a) => tmps.setIfInBounds t a) rtm, defers := [] } (setP ρ rpa.toList vs) [] := by
    rw [htm]; exact ⟨hfold.1, hfold.2, rfl⟩
  have H3 : Hd s w (I pre :: E x vs :: pt l (.loop ⟨.ready, none, rfn, rtm, rpa, ras, rbo, rdf⟩) :: L') := H2.arr_head3
  have hrec2 : ∀ (w : World) (A' : List Hp), Hd s w (A' ++ pt l (.loop ⟨.busy, none, rfn, rtm, rpa, ras, rbo, rdf⟩) :: L') → ∃ rec, w.heap[l]? = some (.loop rec) := fun w A' h => ⟨⟨.busy, none, rfn, rtm, rpa, ras, rbo, rdf⟩, h.obj A'.length (by simp)⟩
  have := hb pre x vs w (pt l (.loop ⟨.ready, none, rfn, rtm, rpa, ras, rbo, rdf⟩) :: L') (pt l (.loop ⟨.busy, none, rfn, rtm, rpa, ras, rbo, rdf⟩) :: L') hxs hrec2 H3 _ hF
  refine wpIn_mono this ?_
  rintro e a w1 ⟨ρ1, ds1, f1, q1⟩
  cases e with
  | normal =>
    simp only [noE] at q1
    obtain ⟨⟨A', hA⟩, q1⟩ := q1
    have hl1 : w1.heap[l]? = some (.loop ⟨.ready, none, rfn, rtm, rpa, ras, rbo, rdf⟩) := hA.obj A'.length (by simp)
    show ∃ w₂, _
    refine ⟨_, run_beginRound hl1 rfl, ?_⟩
    have := q1 (w1.putObj l (.loop ⟨.busy, none, rfn, rtm, rpa, ras, rbo, rdf⟩)) (fun A' h => by
      have h' := Hd.putObj (b := l) (o := .loop ⟨.ready, none, rfn, rtm, rpa, ras, rbo, rdf⟩) h A'.length (by simp) (.loop ⟨.busy, none, rfn, rtm, rpa, ras, rbo, rdf⟩)
      simpa using h') a f1
    refine wpIn_mono this ?_
    rintro e2 a2 w3 ⟨ρ2, ds2, f2, q2⟩
    have fin : ∀ (p : Hp) (j : Option Code), Hd s w3 (p :: pt l (.loop ⟨.busy, none, rfn, rtm, rpa, ras, rbo, rdf⟩) :: L') → ∃ v w', (Instr.endRound l j).run P w3 = .ok v w' ∧ v = .bool j.isNone ∧
        Hd s w' (p :: pt l (.loop ⟨if j.isNone then .ready else .done, j, rfn, rtm, rpa, ras, rbo, rdf⟩) :: L') := fun p j h =>
      ⟨_, _, run_endRound j (h.obj 1 rfl), rfl, h.putObj 1 rfl _⟩
    cases e2 with
    | normal =>
      obtain ⟨v, w', r1, r2, r3⟩ := fin _ none q2
      refine ⟨v, w', r1, v, rfl, .inl ⟨r2, ?_⟩⟩
      refine Hd.star (Hd.weak (r3.perm (List.Perm.swap _ _ _)) fun h hp => ⟨_, ⟨rfl, rfl, rfl, rfl, rfl, hsz, hfit⟩, hp⟩)
    | ret =>
      obtain ⟨v, w', r1, r2, r3⟩ := fin _ (some .ret) q2
      refine ⟨v, w', r1, v, rfl, .inr ⟨r2, ?_⟩⟩
      refine Hd.weak (Hd.star (Hd.weak (r3.perm (List.Perm.swap _ _ _)) fun h hp => (⟨_, ⟨rfl, rfl, rfl, rfl, rfl, hsz, hfit⟩, hp⟩ : LR N ρ rpa ras rbo l .done (some .ret) h))) fun h hh => ⟨.ret, hh⟩
    | exit id =>
      obtain ⟨v, w', r1, r2, r3⟩ := fin _ (some (.exit id)) q2
      refine ⟨v, w', r1, v, rfl, .inr ⟨r2, ?_⟩⟩
      refine Hd.weak (Hd.star (Hd.weak (r3.perm (List.Perm.swap _ _ _)) fun h hp => (⟨_, ⟨rfl, rfl, rfl, rfl, rfl, hsz, hfit⟩, hp⟩ : LR N ρ rpa ras rbo l .done (some (.exit id)) h))) fun h hh => ⟨.exit id, hh⟩
    | goto t =>
      obtain ⟨v, w', r1, r2, r3⟩ := fin _ (some (.goto t)) q2
      refine ⟨v, w', r1, v, rfl, .inr ⟨r2, ?_⟩⟩
      refine Hd.weak (Hd.star (Hd.weak (r3.perm (List.Perm.swap _ _ _)) fun h hp => (⟨_, ⟨rfl, rfl, rfl, rfl, rfl, hsz, hfit⟩, hp⟩ : LR N ρ rpa ras rbo l .done (some (.goto t)) h))) fun h hh => ⟨.goto t, hh⟩
    | panic c => exact q2
    | outgrown => exact q2
  | exit id => exact q1
  | goto t => exact q1
  | ret => exact q1
  | panic c => exact q1
  | outgrown => exact q1
/-- for .. := range g { body }, at the function's own level -/
theorem WC.rangeFnA {g : Operand} {ps : Array Tmp} {asg body : Code} {f : FuncId} {caps : List Value} {E : α → List Value → Hp} {ok : List α → α → Prop} {fin : List α → Prop} {A : Hp} {B : List α → Hp} {I : List α → Hp} {X : Code → List α → Hp} {L : List Hp}
    (hg : ev ρ g = .func (.func f) #[] caps.toArray) (hc : Cal P f) (hps : ∀ p ∈ ps.toList, p < N) (hE : ∀ x vs h, E x vs h → vs.length = ps.size) (hit : ITa P s f caps E ok fin A B) (H : Hd s w (I [] :: A :: L))
    (hb : ∀ l pre x vs w L' L2, ok pre x → (∀ w A', Hd s w (A' ++ L2) → ∃ rec, w.heap[l]? = some (.loop rec)) → Hd s w (I pre :: E x vs :: L') →
      WC P (some l) N asg (noE fun ρ1 ds1 w1 => (∃ A' : List Hp, Hd s w1 (A' ++ L')) ∧ ∀ w2, (∀ A' : List Hp, Hd s w1 (A' ++ L') → Hd s w2 (A' ++ L2)) → WC P (some l) N body (roundE s (I (pre ++ [x])) (fun c => X c (pre ++ [x])) L2) ρ1 ds1 w2) (setP ρ ps.toList vs) [] w)
    (hdone : ∀ w m xs, fin xs → Hd s w (I xs :: B xs :: pt m (.deferred (some [])) :: L) → Q .normal ρ (m :: ds) w)
    (hstop : ∀ w m c pre x, ok pre x → Hd s w (X c (pre ++ [x]) :: B (pre ++ [x]) :: pt m (.deferred (some [])) :: L) → WC P none N c Q ρ (m :: ds) w) :
    WC P none N (.rangeFunc g ps asg body) Q ρ ds w := fun a ha => by
  refine wpIn_rangeFunc fun fn _ => ?_
  have H1 := H.alloc (.deferred (some []))
  have H2 := H1.alloc (.loop { state := .ready, pending := none, fn, tmps := a.tmps, params := ps, assign := asg, body, defers := w.heap.size })
  simp only [World.size_alloc] at H2
  have hres : (resolve a.eval (rangeCall g (w.heap.size + 1)) 0).run P ((w.alloc (.deferred (some []))).alloc (.loop { state := .ready, pending := none, fn, tmps := a.tmps, params := ps, assign := asg, body, defers := w.heap.size })) =
      .ok { target := .fn (.func f) caps.toArray, args := #[.func (.yield (w.heap.size + 1)) #[] #[]] } ((w.alloc (.deferred (some []))).alloc (.loop { state := .ready, pending := none, fn, tmps := a.tmps, params := ps, assign := asg, body, defers := w.heap.size })) := by
    simp only [resolve, rangeCall, ha.eval, hg, Deferred.ofValue]
    have e1 : (#[] : Array Value) ++ Array.map (ev ρ) #[Operand.const (Value.func (Fn.yield (w.heap.size + 1)) #[] #[])] = #[.func (.yield (w.heap.size + 1)) #[] #[]] := by simp [ev]
    rw [e1]; rfl
  have hen := run_enterLoop_outer (P := P) (w := w) fn a.tmps ps asg body
  generalize (w.alloc (.deferred (some []))).alloc (.loop { state := .ready, pending := none, fn, tmps := a.tmps, params := ps, assign := asg, body, defers := w.heap.size }) = W at hres H2 hen
  refine ⟨w.heap.size + 1, [mk w.heap.size], W, _, W, f, (.func (.yield (w.heap.size + 1)) #[] #[] :: caps).toArray, W, hen, hres, fun _ _ => trivial, ?_, by simp [Fe], ?_⟩
  · simp only [invoke]
    rw [run_callFunc hc]
    simp
  · have hys := YA.of (l := w.heap.size + 1) (ps := ps) (asg := asg) (body := body) (E := E) (ok := ok) (I := I) (X := X) (ρ := ρ) (N := N) (P := P) (s := s) hps hE (hb (w.heap.size + 1))
    have H3 : Hd s _ (star (LR N ρ ps asg body (w.heap.size + 1) .ready none) (I []) :: A :: pt w.heap.size (.deferred (some [])) :: L) :=
      Hd.star (Hd.weak (H2.arr_tail3) fun h hp => ⟨_, ⟨rfl, rfl, rfl, rfl, rfl, ha.1, ha.2.1⟩, hp⟩)
    refine CallsIn.mono (hit _ _ _ _ _ hys H3) ?_
    rintro e w3 ⟨v, rfl, hor⟩
    have hfit : Fits N { a with defers := [mk w.heap.size] ++ a.defers } ρ (w.heap.size :: ds) := ⟨ha.1, ha.2.1, by simp [ha.2.2]⟩
    rcases hor with ⟨xs, hfin, h⟩ | ⟨pre, x, hx, h⟩
    · obtain ⟨rec, ⟨hst, hpd, _⟩, h2⟩ := Hd.opn (q := fun rec => pt (w.heap.size + 1) (.loop rec)) (Hd.unstar h) (fun x hx => hx)
      refine ⟨rec.pending, _, run_endLoop (h2.obj 0 rfl) (by rw [hst]; simp), ?_⟩
      rw [hpd]
      exact ⟨ρ, _, hfit, hdone _ _ xs hfin (h2.putObj 0 rfl _).drop⟩
    · obtain ⟨c, h⟩ := Hd.unex h
      obtain ⟨rec, ⟨hst, hpd, _⟩, h2⟩ := Hd.opn (q := fun rec => pt (w.heap.size + 1) (.loop rec)) (Hd.unstar h) (fun x hx => hx)
      refine ⟨rec.pending, _, run_endLoop (h2.obj 0 rfl) (by rw [hst]; simp), ?_⟩
      rw [hpd]
      exact hstop _ _ c pre x hx (h2.putObj 0 rfl _).drop _ hfit
/-- an iterator whose elements are known is one whose elements are not -/
theorem YA.ys {l : Nat} {E : α → List Value → Hp} {ok : List α → α → Prop} {J X : List α → Hp} {xs : List α} (h : YA P s l E ok J X) (hok : ∀ pre x rest, xs = pre ++ x :: rest → ok pre x) : YS P s l E xs J X :=
  fun pre x rest vs w L' hx H => h pre x vs w L' (hok pre x rest hx) H
end
/-! ### lists of keys and things -/
def glook {κ α : Type} [DecidableEq κ] (k : κ) : List (κ × α) → Option α
  | [] => none
  | p :: l => if k = p.1 then some p.2 else glook k l
def gset {κ α : Type} [DecidableEq κ] (k : κ) (v : α) : List (κ × α) → List (κ × α)
  | [] => [(k, v)]
  | p :: l => if k = p.1 then (k, v) :: l else p :: gset k v l
def gdel {κ α : Type} [DecidableEq κ] (k : κ) : List (κ × α) → List (κ × α)
  | [] => []
  | p :: l => if k = p.1 then l else p :: gdel k l
section
variable {κ α : Type} [DecidableEq κ]
abbrev gval (f : α → Value) (p : κ × α) : κ × Value := (p.1, f p.2)
theorem alook_g (f : α → Value) (k : κ) : ∀ l : List (κ × α), alook k (l.map (gval f)) = (glook k l).map f
  | [] => rfl
  | p :: l => by
    simp only [List.map_cons, alook, glook]
    split
    · rfl
    · exact alook_g f k l
theorem aset_g (f : α → Value) (k : κ) (v : α) : ∀ l : List (κ × α), aset k (f v) (l.map (gval f)) = (gset k v l).map (gval f)
  | [] => rfl
  | p :: l => by
    simp only [List.map_cons, aset, gset]
    split
    · rfl
    · rw [List.map_cons, aset_g f k v l]
theorem adel_g (f : α → Value) (k : κ) : ∀ l : List (κ × α), adel k (l.map (gval f)) = (gdel k l).map (gval f)
  | [] => rfl
  | p :: l => by
    simp only [List.map_cons, adel, gdel]
    split
    · rfl
    · rw [List.map_cons, adel_g f k l]
omit [DecidableEq κ] in
theorem keys_g (f : α → Value) (l : List (κ × α)) : (l.map (gval f)).map (·.1) = l.map (·.1) := by rw [List.map_map]; rfl
theorem glook_none {k : κ} {l : List (κ × α)} : glook k l = none ↔ ∀ p ∈ l, p.1 ≠ k := by
  induction l with
  | nil => simp [glook]
  | cons p l ih =>
    simp only [glook, List.mem_cons, forall_eq_or_imp]
    split
    · rename_i h; simp [h]
    · rename_i h; rw [ih]; exact ⟨fun x => ⟨fun e => h e.symm, x⟩, fun x => x.2⟩
theorem glook_mem {k : κ} {v : α} {l : List (κ × α)} (h : glook k l = some v) : (k, v) ∈ l := by
  induction l with
  | nil => cases h
  | cons p l ih =>
    simp only [glook] at h
    split at h
    · rename_i e; cases h; subst e; exact List.mem_cons_self
    · exact List.mem_cons_of_mem _ (ih h)
theorem mem_glook {k : κ} {v : α} {l : List (κ × α)} (hn : (l.map (·.1)).Nodup) (h : (k, v) ∈ l) : glook k l = some v := by
  induction l with
  | nil => cases h
  | cons p l ih =>
    simp only [List.map_cons, List.nodup_cons] at hn
    simp only [glook]
    rcases List.mem_cons.1 h with rfl | h
    · simp
    · have : k ≠ p.1 := fun e => hn.1 (e ▸ List.mem_map_of_mem (f := (·.1)) h)
      rw [if_neg this]; exact ih hn.2 h
theorem glook_iff {k : κ} {v : α} {l : List (κ × α)} (hn : (l.map (·.1)).Nodup) : glook k l = some v ↔ (k, v) ∈ l := ⟨glook_mem, mem_glook hn⟩
theorem glook_gset {k k' : κ} {v : α} : ∀ {l : List (κ × α)}, glook k' (gset k v l) = if k' = k then some v else glook k' l
  | [] => by simp [gset, glook]
  | p :: l => by
    simp only [gset]
    split
    · rename_i h
      subst h
      simp only [glook]
      split <;> simp_all
    · rename_i h
      simp only [glook, glook_gset (l := l)]
      split
      · rename_i e; subst e; rw [if_neg (fun e => h e.symm)]
      · rfl
theorem gset_keys {k : κ} {v : α} : ∀ {l : List (κ × α)}, (gset k v l).map (·.1) = if k ∈ l.map (·.1) then l.map (·.1) else l.map (·.1) ++ [k]
  | [] => by simp [gset]
  | p :: l => by
    simp only [gset]
    split
    · rename_i h; subst h; simp
    · rename_i h
      simp only [List.map_cons, gset_keys (l := l), List.mem_cons, h, false_or]
      split <;> simp
theorem gset_nodup {k : κ} {v : α} {l : List (κ × α)} (h : (l.map (·.1)).Nodup) : ((gset k v l).map (·.1)).Nodup := by
  rw [gset_keys]
  split
  · exact h
  · rename_i hk
    exact List.nodup_append.2 ⟨h, by simp, fun a ha b hb e => hk (by simp at hb; rw [← hb, ← e]; exact ha)⟩
theorem gset_new {k : κ} {v : α} {l : List (κ × α)} (h : glook k l = none) : gset k v l = l ++ [(k, v)] := by
  induction l with
  | nil => rfl
  | cons p l ih =>
    simp only [glook] at h
    split at h
    · cases h
    · rename_i hk; simp only [gset, if_neg hk, ih h, List.cons_append]
theorem gset_old_len {k : κ} {v : α} {l : List (κ × α)} : (gset k v l).length = if (glook k l).isSome then l.length else l.length + 1 := by
  induction l with
  | nil => rfl
  | cons p l ih =>
    simp only [gset, glook]
    split
    · simp
    · simp only [List.length_cons, ih]; split <;> rfl
theorem gdel_sub {k : κ} : ∀ {l : List (κ × α)}, (gdel k l).Sublist l
  | [] => List.Sublist.refl _
  | p :: l => by
    simp only [gdel]
    split
    · exact List.sublist_cons_self _ _
    · exact List.Sublist.cons_cons p (gdel_sub (l := l))
theorem gdel_mem {k : κ} {p : κ × α} {l : List (κ × α)} (hn : (l.map (·.1)).Nodup) : p ∈ gdel k l ↔ p ∈ l ∧ p.1 ≠ k := by
  induction l with
  | nil => simp [gdel]
  | cons q l ih =>
    simp only [List.map_cons, List.nodup_cons] at hn
    simp only [gdel]
    split
    · rename_i h
      subst h
      constructor
      · intro hp; exact ⟨List.mem_cons_of_mem _ hp, fun e => hn.1 (e ▸ List.mem_map_of_mem (f := (·.1)) hp)⟩
      · rintro ⟨hp, hne⟩
        rcases List.mem_cons.1 hp with rfl | hp
        · exact absurd rfl hne
        · exact hp
    · rename_i h
      rw [List.mem_cons, List.mem_cons, ih hn.2]
      constructor
      · rintro (rfl | ⟨h1, h2⟩)
        · exact ⟨.inl rfl, fun e => h e.symm⟩
        · exact ⟨.inr h1, h2⟩
      · rintro ⟨rfl | h1, h2⟩
        · exact .inl rfl
        · exact .inr ⟨h1, h2⟩
end
section
variable {P : Program} {w : World} {ρ : Nat → Value} {d : Option Tmp} {ty : TypeId} {ps : String} {af : Array Edge} {g : Option (Nat × Bool)} {s : Sy} {L : List Hp} {K : Value → World → Prop} {kt : TypeId} {κ : Type} [DecidableEq κ]
theorem KT.inj (T : KT P kt κ) {a b : κ} (h : T.kv a = T.kv b) : a = b := by
  have w : World := ⟨#[], fun _ _ => 0, 0, default, #[]⟩
  have h1 := T.find [⟨T.kv a, .bool true, 0⟩] [(a, .bool true)] a w rfl
  have h2 := T.find [⟨T.kv a, .bool true, 0⟩] [(b, .bool true)] a w (by simp [h])
  rw [h1] at h2
  by_cases e : a = b
  · exact e
  · simp [aidx, e] at h2
theorem x_lenMp {t k e : TypeId} {x : Operand} {m : Nat} {l : List (κ × Value)} {ats : Array TypeId} (T : KT P kt κ) (ht : P.underlying t = some (.map k e)) (ha : ats[0]? = some t) (hx : ev ρ x = .map (some m)) (H : Hd s w L) (i : Nat) (hi : L[i]? = some (Mp T m l)) :
    (execOp (ev ρ) ⟨d, .call { callee := .builtin .len, args := #[x], argTypes := ats }, ty, ps, af, g⟩).run P w = .ok (.value (.int .i64 l.length)) w := by
  obtain ⟨es, cl, hm, hv⟩ := Mp.obj T H i hi
  rw [x_lenMap ht ha hx hm, MV.size hv]
theorem erase_filter {α : Type} {q : α → Bool} : ∀ {l : List α} {j : Nat} {x : α}, l[j]? = some x → q x = false → (l.eraseIdx j).filter q = l.filter q
  | [], _, _, h, _ => by simp at h
  | y :: l, 0, x, h, hq => by simp at h; subst h; simp [hq]
  | y :: l, j + 1, x, h, hq => by
    simp at h
    simp only [List.eraseIdx_cons_succ, List.filter_cons, erase_filter h hq]
theorem nodup_get {α : Type} {l : List α} (h : l.Nodup) {i j : Nat} {x : α} (hi : l[i]? = some x) (hj : l[j]? = some x) : i = j := by
  induction l generalizing i j with
  | nil => simp at hi
  | cons a l ih =>
    rw [List.nodup_cons] at h
    cases i with
    | zero =>
      cases j with
      | zero => rfl
      | succ j => simp at hi hj; subst hi; exact absurd (List.mem_of_getElem? hj) h.1
    | succ i =>
      cases j with
      | zero => simp at hi hj; subst hj; exact absurd (List.mem_of_getElem? hi) h.1
      | succ j => simp at hi hj; rw [ih h.2 hi hj]
/-- the entry at which a range stands is taken out -/
theorem s_deleteM {t et : TypeId} {x y : Operand} {m b : Nat} {l rest : List (κ × Value)} {p : κ × Value} {ats : Array TypeId} (T : KT P kt κ) (ht : P.underlying t = some (.map kt et)) (ha : ats[0]? = some t) (i : Nat) (hi : L[i]? = some (MR T m b l (some p) rest)) (hnd : (l.map (·.1)).Nodup) (hx : ev ρ x = .map (some m)) (hk : ev ρ y = T.kv p.1)
    (H : Hd s w L) (kk : ∀ w', Hd s w' (L.set i (MR T m b (adel p.1 l) none rest)) → K (.tuple #[]) w') : St P ⟨d, .call { callee := .builtin .delete, args := #[x, y], argTypes := ats }, ty, ps, af, g⟩ ρ w K := by
  refine ⟨trivial, ?_⟩
  obtain ⟨es, cl, seen, ⟨hv, hs, hr, hc⟩, H1⟩ := MR.opn H i hi
  have hm := H1.obj 0 rfl
  obtain ⟨e, sn, he, hsn, hek, hev⟩ := hc p rfl
  obtain ⟨j0, hj0, hej⟩ := List.mem_iff_getElem.1 he
  have hsz := MV.size hv
  have hl0 : l[j0]? = some p := by
    have e1 : (es.toList.map (fun e => (e.key, e.val)))[j0]? = (l.map fun p => (T.kv p.1, p.2))[j0]? := by rw [show es.toList.map (fun e => (e.key, e.val)) = _ from hv]
    rw [List.getElem?_map, List.getElem?_map, List.getElem?_eq_getElem hj0, hej] at e1
    have hlt : j0 < l.length := by rw [← hsz]; simpa using hj0
    rw [List.getElem?_eq_getElem hlt] at e1 ⊢
    simp only [Option.map_some, Option.some.injEq, Prod.mk.injEq] at e1
    rw [hek, hev] at e1
    have : l[j0].1 = p.1 := (T.inj e1.1).symm
    have h2 : l[j0].2 = p.2 := e1.2.symm
    congr 1
    exact Prod.ext this h2
  cases hf : aidx p.1 l 0 with
  | none =>
    have h1 := aidx_alook p.1 l 0
    rw [hf] at h1
    have : alook p.1 l ≠ none := by
      clear h1 hf
      have hmem : p ∈ l := List.mem_of_getElem? hl0
      intro hno
      induction l with
      | nil => cases hmem
      | cons q l ih =>
        simp only [alook] at hno
        split at hno
        · cases hno
        · rename_i hne
          rcases List.mem_cons.1 hmem with rfl | h
          · exact hne rfl
          · clear ih
            have : ∀ l : List (κ × Value), p ∈ l → alook p.1 l ≠ none := by
              intro l
              induction l with
              | nil => intro h; cases h
              | cons q l ih =>
                intro h hno
                simp only [alook] at hno
                split at hno
                · cases hno
                · rename_i hne
                  rcases List.mem_cons.1 h with rfl | h
                  · exact hne rfl
                  · exact ih h hno
            exact this l h hno
    exact absurd h1.symm this
  | some jv =>
    obtain ⟨j, v0⟩ := jv
    obtain ⟨_, h2, h3, h4⟩ := aidx_some hf
    simp only [Nat.sub_zero] at h2 h3 h4
    have hjj : j = j0 := by
      have h5 : (l.map (·.1))[j]? = some p.1 := by rw [List.getElem?_map, h2]; rfl
      have h6 : (l.map (·.1))[j0]? = some p.1 := by rw [List.getElem?_map, hl0]; rfl
      exact nodup_get hnd h5 h6
    subst hjj
    have hj : j < es.size := by simpa using hj0
    have : (execOp (ev ρ) ⟨d, .call { callee := .builtin .delete, args := #[x, y], argTypes := ats }, ty, ps, af, g⟩).run P w = .ok (.value (.tuple #[])) (w.putObj m (.map (es.eraseIdxIfInBounds j) cl)) := by
      simp [execOp, resolve, invoke, builtin, Builtin.delete_, ha, hx, hk, Sem.run_bind, run_under ht, Result.andThen, Sem.run_pure, getObj, Sem.run, hm, T.chk, run_findKey (T := T) hv p.1, hf, setObj, World.putObj]
    rw [this]
    have hel : (es.eraseIdxIfInBounds j).toList = es.toList.eraseIdx j := by
      simp [Array.eraseIdxIfInBounds, hj]
    refine kk _ (Hd.back hi (Hd.weak (H1.putObj 0 rfl _).star fun h hp => ⟨(es.eraseIdxIfInBounds j, cl, seen), ⟨?_, ⟨?_, ?_⟩, ?_, fun p hp => by cases hp⟩, hp⟩))
    · show List.map _ _ = _
      rw [hel, ← h4, ChangeMaps.map_eraseIdx, ChangeMaps.map_eraseIdx, show es.toList.map (fun e => (e.key, e.val)) = _ from hv]
    · show (List.map _ _).Nodup
      rw [hel]
      exact List.Nodup.sublist (List.Sublist.map _ (List.eraseIdx_sublist _ _)) hs.1
    · intro e he
      rw [hel] at he
      exact hs.2 e ((List.eraseIdx_sublist _ _).subset he)
    · show ((es.eraseIdxIfInBounds j).toList.filter fun e => !seen.contains e.born).map _ = _
      rw [hel, erase_filter (x := e) (by rw [List.getElem?_eq_getElem hj0, hej]) (by rw [hsn]; simp)]
      exact hr
theorem s_insert {t et : TypeId} {x y u : Operand} {b : Nat} {l : List (κ × Value)} {k : κ} {v : Value} (T : KT P kt κ) (ht : P.underlying t = some (.map kt et)) (i : Nat) (hi : L[i]? = some (Mp T b l)) (hx : ev ρ x = .map (some b)) (hk : ev ρ y = T.kv k) (hu : ev ρ u = v)
    (H : Hd s w L) (kk : ∀ w', Hd s w' (L.set i (Mp T b (aset k v l))) → K undef w') : St P ⟨d, .insert t x y u, ty, ps, af, g⟩ ρ w K := by
  have := s_mapUpdate (d := d) (ty := ty) (ps := ps) (af := af) (g := g) T ht i hi hx hk hu H kk
  exact ⟨trivial, this.2⟩
/-- all of a world, and no fewer draws -/
theorem Hd.startD (w : World) : Hd (syD w) w [fr w] := by
  obtain ⟨⟨h1, h2, h3, _⟩, h⟩ := Hd.start w
  exact ⟨⟨h1, h2, h3, fun d hd => by cases hd; exact Nat.le_refl _⟩, h⟩
theorem Hd.grown {w0 : World} (H : Hd (syD w0) w L) (i : Nat) (hi : L[i]? = some (fr w0)) : ∃ q os, w = Sort.grow (w0.drewN q) os := by
  have hf := H.frozen i hi
  have hd := H.1.2.2.2 _ rfl
  refine ⟨w.drawn - w0.drawn, w.heap.extract w0.heap.size w.heap.size, ?_⟩
  have hsz : w0.heap.size ≤ w.heap.size := by
    rcases Nat.eq_zero_or_pos w0.heap.size with h0 | h0
    · omega
    · have := hf (w0.heap.size - 1) _ (Array.getElem?_eq_getElem (by omega))
      have := (Array.getElem?_eq_some_iff.1 this).1
      omega
  have hheap : w.heap = w0.heap ++ w.heap.extract w0.heap.size w.heap.size := by
    apply Array.ext_getElem?
    intro k
    rw [Array.getElem?_append]
    split
    · rename_i hk
      rw [Array.getElem?_eq_getElem hk]
      exact hf k _ (Array.getElem?_eq_getElem hk)
    · rename_i hk
      rw [Array.getElem?_extract]
      by_cases h2 : k < w.heap.size
      · rw [if_pos (by omega)]; congr 1; omega
      · rw [if_neg (by omega), Array.getElem?_eq_none (by omega)]
  obtain ⟨h1, h2, h3, _⟩ := H.1
  cases w; cases w0
  simp only [Sort.grow, World.drewN, World.mk.injEq, syD] at *
  exact ⟨hheap, h2, by omega, h1, h3⟩
theorem Hd.newR {w0 : World} {b : Nat} {o : Obj} (H : Hd s w (pt b o :: fr w0 :: L)) : w0.heap.size ≤ b := by
  obtain ⟨_, h, _, a, c, hd, rfl, ha, x, y, hxy, rfl, hx, _⟩ := H
  rcases Nat.lt_or_ge b w0.heap.size with h1 | h1
  · have h2 := hx b _ (Array.getElem?_eq_getElem h1)
    rcases hd b with e | e
    · rw [show a b = some o from ha] at e; cases e
    · simp [hor, h2] at e
  · exact h1
theorem Ext.growN (w : World) (k : Nat) (os : Array Obj) : Ext w (Sort.grow (w.drewN k) os) := ⟨rfl, rfl, rfl, by simp [Sort.grow], fun i hi => by
  show (w.heap ++ os)[i]? = _
  rw [Array.getElem?_append_left hi]⟩
/-- what is one's own becomes memory that stays: the piece itself -/
theorem Hd.freezeA {A : Hp} {g : Sub} (H : Hd s w (A :: KE.fz g :: L)) : ∃ g' a, sle g g' ∧ sle a g' ∧ A a ∧ Hd s w (KE.fz g' :: L) := by
  obtain ⟨h0, h, hs, a, b, hd, he, ha, c, d, hd2, he2, hc, hL⟩ := H
  subst he he2
  obtain ⟨k1, k2⟩ := hdis_hor_l hd
  refine ⟨hor c a, a, ?_, ?_, ha, h0, hor a (hor c d), hs, hor c a, d, ?_, ?_, fun _ _ h => h, hL⟩
  · intro i o hi
    have := hc i o hi
    simp [hor, this]
  · intro i o hi
    rcases k1 i with h1 | h1
    · rw [h1] at hi; cases hi
    · simp [hor, h1, hi]
  · intro i
    rcases hd2 i with h1 | h1
    · rcases k2 i with h2 | h2
      · left; simp [hor, h1, h2]
      · right; exact h2
    · right; exact h1
  · rw [← hor_assoc, hor_comm k1]
theorem Fx.ofSub {a g : Sub} {Φ : World → Prop} (h : ∀ w, hsub a w → Φ w) (k : sle a g) : Fx g Φ := fun w hw => h w fun i o x => hw i o (k i o x)
/-- a map that lies in memory that stays -/
def MpG {P : Program} {kt : TypeId} (T : KT P kt κ) (m : Nat) (l : List (κ × Value)) (g : Sub) : Prop := ∃ es cl, g m = some (.map es cl) ∧ MV T.kv es l ∧ Stamps es cl
theorem MpG.mono {T : KT P kt κ} {m : Nat} {l : List (κ × Value)} {g g' : Sub} (h : MpG T m l g) (k : sle g g') : MpG T m l g' := by
  obtain ⟨es, cl, h1, h2⟩ := h; exact ⟨es, cl, k _ _ h1, h2⟩
theorem MpG.of {T : KT P kt κ} {m : Nat} {l : List (κ × Value)} {h : Sub} (k : Mp T m l h) : MpG T m l h := by
  obtain ⟨⟨es, cl⟩, ⟨h1, h2⟩, h3⟩ := k; exact ⟨es, cl, h3, h1, h2⟩
theorem MpG.rd {T : KT P kt κ} {m : Nat} {l : List (κ × Value)} {g : Sub} (h : MpG T m l g) {w : World} (hw : hsub g w) : MpR T m l w := by
  obtain ⟨es, cl, h1, h2⟩ := h; exact ⟨es, cl, hw _ _ h1, h2⟩
theorem RdL.at_ {α : Type} {b o n c i : Nat} {f : α → Value} {xs : List α} {x : α} (h : RdL w (.slice (some ⟨b, o, none⟩) n c) f xs) (hx : xs[i]? = some x) : w.cell? ⟨b, o + i * 1, none⟩ = some (f x) := by
  obtain ⟨b1, o1, e, hc⟩ := h.el hx
  cases e; exact hc
theorem Hd.startB {w0 w' : World} (h : Ext w0 w) (k : Below w0.heap.size w w') : Hd (sy w0) w' [fr w0] := (Hd.start w0).ext (Below.trans h k)
theorem ev_cons {x : Operand} {v : Value} {l : List Operand} {vs : List Value} (h : ev ρ x = v) (k : l.map (ev ρ) = vs) : (x :: l).map (ev ρ) = v :: vs := by rw [List.map_cons, h, k]
theorem s_callA {f : FuncId} {xs : List Operand} {vs : List Value} {ats : Array TypeId} {R : Value → World → Prop} (hc : Cal P f) (ha : xs.map (ev ρ) = vs) (h : CC P f vs.toArray w R) (k : ∀ v w', R v w' → K v w') : St P ⟨d, .call { callee := .value (.func f), args := xs.toArray, argTypes := ats }, ty, ps, af, g⟩ ρ w K := by
  subst ha; exact s_callL hc h k
theorem x_makeFuncE {f : Fn} {a c : List Operand} {vs ws : List Value} (ha : a.map (ev ρ) = vs) (hc : c.map (ev ρ) = ws) : (execOp (ev ρ) ⟨d, .makeFunc f a.toArray c.toArray, ty, ps, af, g⟩).run P w = .ok (.value (.func f vs.toArray ws.toArray)) w := by subst ha hc; exact x_makeFuncL
theorem s_makeRow {t e : TypeId} {l c : Operand} {z : Value} {by_ : Nat} {m : Nat} {k1 k2 : IntKind} (ht : P.underlying t = some (.slice e)) (hy : Ty P e z 1 by_) (hz1 : z.cells = #[z]) (hl : ev ρ l = .int k1 (m : Int)) (hc : ev ρ c = .int k2 (m : Int)) (hb : by_ * m ≤ 281474976710656) (hm : m ≤ 140737488355328)
    (H : Hd s w L) (k : ∀ b w', Hd s w' (Sl (.slice (some ⟨b, 0, none⟩) m m) e 1 m (List.replicate m z) :: L) → K (.slice (some ⟨b, 0, none⟩) m m) w') : St P ⟨d, .makeSlice t l c, ty, ps, af, g⟩ ρ w K := by
  obtain ⟨inf, hinf, hz, hsize, hbytes⟩ := hy
  refine ⟨trivial, ?_⟩
  have hrun0 := run_make_row (P := P) t e inf z ht hinf hz hsize hz1 k1 k2 m (by rw [hbytes]; exact hb) (by omega) w
  have hrun : (execOp (ev ρ) ⟨d, .makeSlice t l c, ty, ps, af, g⟩).run P w = .ok (.value (.slice (some ⟨w.heap.size, 0, none⟩) m m)) (w.alloc (.cells (madeCells #[z] m) e)) := by
    simp [execOp, hl, hc, hrun0, Sem.run_bind, Result.andThen, Sem.run_pure]
  rw [hrun]
  refine k _ _ (Hd.weak (H.alloc _) fun h hp => ⟨⟨by simp, hm⟩, .inr ⟨(w.heap.size, 0, m, madeCells #[z] m), ⟨rfl, Nat.le_refl _, by simp [size_madeCells], fun j u hj => ?_⟩, hp⟩⟩)
  rw [List.getElem?_replicate] at hj
  split at hj
  · rename_i hlt; cases hj
    show (madeCells #[z] m)[0 + j]? = some z
    rw [Nat.zero_add]; simp [madeCells, hlt, Nat.mod_one]
  · cases hj
theorem x_lenMpG {α : Type} {f : α → Value} {t k e : TypeId} {x : Operand} {m : Nat} {l : List (κ × α)} {ats : Array TypeId} (T : KT P kt κ) (ht : P.underlying t = some (.map k e)) (ha : ats[0]? = some t) (hx : ev ρ x = .map (some m)) (H : Hd s w L) (i : Nat) (hi : L[i]? = some (Mp T m (l.map (gval f)))) :
    (execOp (ev ρ) ⟨d, .call { callee := .builtin .len, args := #[x], argTypes := ats }, ty, ps, af, g⟩).run P w = .ok (.value (.int .i64 l.length)) w := by
  rw [x_lenMp T ht ha hx H i hi, List.length_map]
/-- the marks of ranges that have ended -/
def MK (ds : List Nat) : Hp := KE.sep (ds.map fun m => pt m (.deferred (some [])))
theorem MK.nil (H : Hd s w L) : Hd s w (MK [] :: L) := by
  obtain ⟨h0, h, hs, hL⟩ := H
  refine ⟨h0, h, hs, fun _ => none, h, fun _ => .inl rfl, ?_, trivial, hL⟩
  funext i; simp [hor]
theorem MK.cons {m : Nat} {ds : List Nat} (H : Hd s w (pt m (.deferred (some [])) :: MK ds :: L)) : Hd s w (MK (m :: ds) :: L) := H.star
theorem RetM.marks {fn : Func} {R : Value → World → Prop} : ∀ (ds : List Nat) {w : World} {L : List Hp}, Hd s w (MK ds :: L) → (∀ w', Hd s w' L → RetM P fn R ρ [] w') → RetM P fn R ρ ds w
  | [], w, L, H, k => k w H.drop
  | m :: ds, w, L, H, k => by
    have H1 : Hd s w (pt m (.deferred (some [])) :: MK ds :: L) := Hd.unstar (p := pt m (.deferred (some []))) (q := MK ds) H
    exact ⟨H1.obj 0 rfl, RetM.marks ds (H1.putObj 0 rfl (.deferred none)).drop k⟩
theorem s_storeElF {α : Type} {f : α → Value} {l : List α} {u : α} {t e : TypeId} {a x : Operand} {v : Value} {n : Nat} {z : Value} {by_ b o c k : Nat} (i : Nat) (hi : L[i]? = some (Sl v e 1 n (l.map f))) (hv : v = .slice (some ⟨b, o, none⟩) n c) (hk : k < n) (hy : Ty P t z 1 by_) (ha : ev ρ a = .pointer (some ⟨b, o + k * 1, none⟩)) (hx : ev ρ x = f u) (h1 : oneC (f u) = true)
    (H : Hd s w L) (kk : ∀ w', Hd s w' (L.set i (Sl v e 1 n ((l.set k u).map f))) → K undef w') : St P ⟨d, .store t a x, ty, ps, af, g⟩ ρ w K :=
  s_storeEl i hi hv hk hy ha hx h1 H (fun w' H' => kk w' (by rw [List.map_set]; exact H'))
def ktN (P : Program) (kt : TypeId) (h : P.underlying kt = some (.int .i64)) : KT P kt Nat where
  kv n := .int .i64 (n : Int)
  find := find_now (kv := fun n : Nat => Value.int .i64 (n : Int)) h fun (a b : Nat) => by
    show (if IntKind.i64 = IntKind.i64 then some ((a : Int) == (b : Int)) else none) = _
    rw [if_pos rfl]
    congr 1
    by_cases e : a = b
    · subst e; rw [beq_self_eq_true, decide_eq_true rfl]
    · have : ¬ (a : Int) = (b : Int) := by omega
      rw [decide_eq_false e, beq_eq_false_iff_ne.2 this]
  bits := fun a => sb_int _ .i64 a
  chk := fun e a w => ck_int h 9999 e a w
/-- old memory stays, and the draws do not fall -/
structure ExtD (w w' : World) : Prop where
  e : Ext w w'
  d : w.drawn ≤ w'.drawn
theorem Hd.extD (H : Hd s w L) {w' : World} (e : ExtD w w') : Hd s w' L := by
  obtain ⟨⟨h1, h2, h3, h4⟩, h, hs, hL⟩ := H
  refine ⟨⟨e.e.os.trans h1, e.e.tape.trans h2, e.e.output.trans h3, fun d hd => Nat.le_trans (h4 d hd) e.d⟩, h, fun i o hi => ?_, hL⟩
  have := hs i o hi
  rw [e.e.block i (Array.getElem?_eq_some_iff.1 this).1]; exact this
theorem Hd.toS {w0 : World} (H : Hd (syD w0) w L) : Hd (sy w0) w L := ⟨⟨H.1.1, H.1.2.1, H.1.2.2.1, fun d hd => by cases hd⟩, H.2⟩
theorem Hd.belowD {w0 : World} (H : Hd (syD w0) w L) (i : Nat) (hi : L[i]? = some (fr w0)) : ExtD w0 w := ⟨H.toS.below i hi, H.1.2.2.2 _ rfl⟩
theorem ExtD.grown {w0 : World} (e : ExtD w0 w) : ∃ q os, w = Sort.grow (w0.drewN q) os := ((Hd.startD w0).extD e).grown 0 rfl
end
/-! ### maps of maps: a key's thing: the inner map's block, what it holds -/
abbrev N2 (κ κ' α : Type) := List (κ × (Nat × List (κ' × α)))
abbrev pI {κ' α : Type} (q : Nat × List (κ' × α)) : Value := .map (some q.1)
def optM {κ' α : Type} : Option (Nat × List (κ' × α)) → Value
  | some q => pI q
  | none => .map none
def look2 {κ κ' α : Type} [DecidableEq κ] [DecidableEq κ'] (l : N2 κ κ' α) (k : κ) (k' : κ') : Option α := (glook k l).bind fun q => glook k' q.2
def okN2 {κ κ' α : Type} (l : N2 κ κ' α) : Prop := (l.map (·.1)).Nodup ∧ ∀ p ∈ l, (p.2.2.map (·.1)).Nodup
section
variable {κ κ' α : Type} [DecidableEq κ] [DecidableEq κ']
theorem look2_gset {l : N2 κ κ' α} {k q : κ} {q' : κ'} {m : Nat} {row : List (κ' × α)} : look2 (gset k (m, row) l) q q' = if q = k then glook q' row else look2 l q q' := by
  unfold look2
  rw [glook_gset]
  split <;> rfl
theorem okN2.set {l : N2 κ κ' α} {k : κ} {m : Nat} {row : List (κ' × α)} (h : okN2 l) (hr : (row.map (·.1)).Nodup) : okN2 (gset k (m, row) l) := by
  have _ : DecidableEq κ' := inferInstance
  refine ⟨gset_nodup h.1, fun p hp => ?_⟩
  have key : ∀ {l : N2 κ κ' α}, (∀ p ∈ l, (p.2.2.map (·.1)).Nodup) → ∀ p ∈ gset k (m, row) l, (p.2.2.map (·.1)).Nodup := by
    intro l
    induction l with
    | nil => intro h p hp; have := List.mem_singleton.1 hp; subst this; exact hr
    | cons a l ih =>
      intro h p hp
      simp only [gset] at hp
      split at hp
      · rcases List.mem_cons.1 hp with rfl | hp
        · exact hr
        · exact h p (List.mem_cons_of_mem _ hp)
      · rcases List.mem_cons.1 hp with rfl | hp
        · exact h p List.mem_cons_self
        · exact ih (fun p hp => h p (List.mem_cons_of_mem _ hp)) p hp
  exact key h.2 p hp
theorem okN2.row {l : N2 κ κ' α} {k : κ} {q : Nat × List (κ' × α)} (h : okN2 l) (hk : glook k l = some q) : (q.2.map (·.1)).Nodup := by
  have _ : DecidableEq κ' := inferInstance
  exact h.2 (k, q) (glook_mem hk)
theorem gset_pt {l : N2 κ κ' α} {k : κ} {m : Nat} {row row' : List (κ' × α)} (h : glook k l = some (m, row)) : (gset k (m, row') l).map (gval pI) = l.map (gval pI) := by
  have _ : DecidableEq κ' := inferInstance
  induction l with
  | nil => cases h
  | cons p l ih =>
    simp only [glook] at h
    simp only [gset]
    split at h
    · rename_i e
      obtain ⟨p1, p2⟩ := p
      cases h
      subst e
      rw [if_pos rfl]; rfl
    · rename_i e
      rw [if_neg e, List.map_cons, ih h, List.map_cons]
theorem okN2.nil : okN2 ([] : N2 κ κ' α) := by
  have _ : DecidableEq κ := inferInstance
  have _ : DecidableEq κ' := inferInstance
  exact ⟨List.nodup_nil, fun p h => by cases h⟩
end
section
variable {P : Program} {w : World} {ρ : Nat → Value} {d : Option Tmp} {ty : TypeId} {ps : String} {af : Array Edge} {g : Option (Nat × Bool)} {s : Sy} {L : List Hp} {K : Value → World → Prop} {kt kt' : TypeId} {κ κ' α : Type} [DecidableEq κ] [DecidableEq κ']
def IM (T2 : KT P kt' κ') (f : α → Value) (l : N2 κ κ' α) : Hp := KE.sep (l.map fun p => Mp T2 p.2.1 (p.2.2.map (gval f)))
theorem IM.nil {T2 : KT P kt' κ'} {f : α → Value} (H : Hd s w L) : Hd s w (IM T2 f ([] : N2 κ κ' α) :: L) := by
  have _ : DecidableEq κ := inferInstance
  have _ : DecidableEq κ' := inferInstance
  obtain ⟨h0, h, hs, hL⟩ := H
  refine ⟨h0, h, hs, fun _ => none, h, fun _ => .inl rfl, ?_, trivial, hL⟩
  funext i; simp [hor]
theorem IM.split {T2 : KT P kt' κ'} {f : α → Value} {k : κ} {m : Nat} {row : List (κ' × α)} : ∀ {l : N2 κ κ' α}, glook k l = some (m, row) → ∃ R : List Hp, (l.map fun p => Mp T2 p.2.1 (p.2.2.map (gval f))).Perm (Mp T2 m (row.map (gval f)) :: R) ∧
    (∀ row', ((gset k (m, row') l).map fun p => Mp T2 p.2.1 (p.2.2.map (gval f))).Perm (Mp T2 m (row'.map (gval f)) :: R)) ∧ ((gdel k l).map fun p => Mp T2 p.2.1 (p.2.2.map (gval f))).Perm R
  | [], h => by cases h
  | p :: l, h => by
    simp only [glook] at h
    split at h
    · rename_i e
      obtain ⟨p1, p2⟩ := p
      cases h
      subst e
      refine ⟨l.map fun p => Mp T2 p.2.1 (p.2.2.map (gval f)), List.Perm.refl _, fun row' => ?_, ?_⟩
      · simp only [gset, if_pos]; exact List.Perm.refl _
      · simp only [gdel, if_pos]; exact List.Perm.refl _
    · rename_i e
      obtain ⟨R, h1, h2, h3⟩ := IM.split (l := l) h
      refine ⟨Mp T2 p.2.1 (p.2.2.map (gval f)) :: R, ?_, fun row' => ?_, ?_⟩
      · rw [List.map_cons]; exact (h1.cons _).trans (List.Perm.swap _ _ _)
      · simp only [gset, if_neg e, List.map_cons]; exact ((h2 row').cons _).trans (List.Perm.swap _ _ _)
      · simp only [gdel, if_neg e, List.map_cons]; exact h3.cons _
theorem Hd.sepPerm {A B : List Hp} (h : A.Perm B) (H : Hd s w (KE.sep A :: L)) : Hd s w (KE.sep B :: L) := (Hd.unsep (A := A) H |>.perm (h.append_right L)).sep (A := B)
/-- an inner map comes to the front -/
theorem IM.focus {T2 : KT P kt' κ'} {f : α → Value} {l : N2 κ κ' α} {k : κ} {m : Nat} {row : List (κ' × α)} (hk : glook k l = some (m, row)) (H : Hd s w (IM T2 f l :: L)) : ∃ rest : Hp, Hd s w (Mp T2 m (row.map (gval f)) :: rest :: L) ∧
    (∀ (row' : List (κ' × α)) (w' : World) (L' : List Hp), Hd s w' (Mp T2 m (row'.map (gval f)) :: rest :: L') → Hd s w' (IM T2 f (gset k (m, row') l) :: L')) ∧ ∀ (w' : World) (L' : List Hp), Hd s w' (rest :: L') → Hd s w' (IM T2 f (gdel k l) :: L') := by
  obtain ⟨R, h1, h2, h3⟩ := IM.split (T2 := T2) (f := f) hk
  refine ⟨KE.sep R, ?_, fun row' w' L' H' => ?_, fun w' L' H' => ?_⟩
  · have H1 : Hd s w (KE.sep (Mp T2 m (row.map (gval f)) :: R) :: L) := Hd.sepPerm h1 H
    exact Hd.unstar (p := Mp T2 m (row.map (gval f))) (q := KE.sep R) H1
  · have H1 : Hd s w' (KE.sep (Mp T2 m (row'.map (gval f)) :: R) :: L') := H'.star
    exact Hd.sepPerm (h2 row').symm H1
  · exact Hd.sepPerm h3.symm H'
theorem IM.add {T2 : KT P kt' κ'} {f : α → Value} {l : N2 κ κ' α} {k : κ} {m : Nat} {row : List (κ' × α)} (hk : glook k l = none) (H : Hd s w (Mp T2 m (row.map (gval f)) :: IM T2 f l :: L)) : Hd s w (IM T2 f (gset k (m, row) l) :: L) := by
  have H1 : Hd s w (KE.sep (Mp T2 m (row.map (gval f)) :: l.map fun p => Mp T2 p.2.1 (p.2.2.map (gval f))) :: L) := H.star
  refine Hd.sepPerm ?_ H1
  rw [gset_new hk, List.map_append]
  exact (List.perm_append_comm (l₁ := [Mp T2 m (row.map (gval f))])).trans (List.Perm.refl _)
theorem IM.rd {T2 : KT P kt' κ'} {f : α → Value} {l : N2 κ κ' α} (H : Hd s w L) (i : Nat) (hi : L[i]? = some (IM T2 f l)) {k : κ} {m : Nat} {row : List (κ' × α)} (hk : glook k l = some (m, row)) : MpR T2 m (row.map (gval f)) w := by
  obtain ⟨rest, H1, _⟩ := IM.focus hk (H.pick i hi)
  obtain ⟨h, h1, h2⟩ := H1.fact
  exact MpR.of h1 h2
theorem Mp.rdH {T : KT P kt κ} {m : Nat} {l : List (κ × Value)} (H : Hd s w L) (i : Nat) (hi : L[i]? = some (Mp T m l)) : MpR T m l w := by
  obtain ⟨h, h1, h2⟩ := H.fact_at i hi
  exact MpR.of h1 h2
/-- a look-up in an inner map, where there is one -/
theorem x_look2 {f : α → Value} {t et : TypeId} {x y : Operand} {o : Option (Nat × List (κ' × α))} {k' : κ'} {z u : Value} {sz by_ : Nat} {c : Bool} (T2 : KT P kt' κ') (ht : P.underlying t = some (.map kt' et)) (hy : Ty P et z sz by_) (hx : ev ρ x = optM o) (hk : ev ρ y = T2.kv k') (hR : ∀ m row, o = some (m, row) → MpR T2 m (row.map (gval f)) w)
    (hu : lkV c z ((o.bind fun q => glook k' q.2).map f) = u) : (execOp (ev ρ) ⟨d, .lookup t x y c, ty, ps, af, g⟩).run P w = .ok (.value u) w := by
  cases o with
  | none => subst hu; exact x_lookupNil T2 ht hy hx hk
  | some q =>
    obtain ⟨m, row⟩ := q
    exact x_lookR T2 ht hy hx hk (hR m row rfl) (by rw [alook_g]; exact hu)
theorem lk_pt {l : N2 κ κ' α} {k : κ} : lkV false (.map none) (alook k (l.map (gval pI))) = optM (glook k l) := by
  have _ : DecidableEq κ' := inferInstance
  rw [alook_g]; cases glook k l <;> rfl
/-- a map is held against nil -/
theorem x_eqlM {κ' α : Type} {t t2 k e : TypeId} {x : Operand} {o : Option (Nat × List (κ' × α))} (ht : P.underlying t = some (.map k e)) (hx : ev ρ x = optM o) : (execOp (ev ρ) ⟨d, .binOp .eql t x (.const (.map none)) t2, ty, ps, af, g⟩).run P w = .ok (.value (.bool (decide (o = none)))) w := by
  refine x_cmp (b := .map none) hx rfl (by cases o <;> simp [eqGuard, Sem.run_pure, optM]) ?_
  have : ∀ m (v : Option Nat), (Op.equalIn (m + 1) t (.map v) (.map none)).run P w = .ok v.isNone w := fun m v => by
    cases v <;> simp [Op.equalIn, Sem.run_bind, run_under ht, Result.andThen, Sem.run_pure]
  cases o with
  | none => simp [binOp, Sem.run_bind, show (Op.equal t (.map none) (.map none)).run P w = .ok true w from this 9999 none, Result.andThen, Sem.run_pure, optM]
  | some q => simp [binOp, Sem.run_bind, show (Op.equal t (.map (some q.1)) (.map none)).run P w = .ok false w from this 9999 (some q.1), Result.andThen, Sem.run_pure, optM]
/-! ### a range over a map that may be nil -/
def MRo (T : KT P kt κ) (o : Option Nat) (b : Nat) (l : List (κ × Value)) (cur : Option (κ × Value)) (rest : List (κ × Value)) : Hp := match o with
  | some m => MR T m b l cur rest
  | none => fun h => (l = [] ∧ rest = [] ∧ cur = none) ∧ pt b (.mapIter none 0 #[] 0) h
def Mpo (T : KT P kt κ) (o : Option Nat) (l : List (κ × Value)) : Hp := match o with
  | some m => Mp T m l
  | none => fun _ => l = []
theorem MRo.map {T : KT P kt κ} {o : Option Nat} {b : Nat} {l rest : List (κ × Value)} {cur : Option (κ × Value)} (H : Hd s w (MRo T o b l cur rest :: L)) : Hd s w (Mpo T o l :: L) := by
  cases o with
  | some m => exact MR.map H
  | none => exact Hd.weak H fun h hh => hh.1.1
theorem s_rangeO {t et : TypeId} {x : Operand} {o : Option Nat} {l : List (κ × Value)} (T : KT P kt κ) (ht : P.underlying t = some (.map kt et)) (i : Nat) (hi : L[i]? = some (Mpo T o l)) (hx : ev ρ x = .map o) (H : Hd s w L)
    (k : ∀ b w', Hd s w' (MRo T o b l none l :: L.eraseIdx i) → K (.pointer (some ⟨b, 0, none⟩)) w') : St P ⟨d, .range t x, ty, ps, af, g⟩ ρ w K := by
  cases o with
  | some m => exact s_rangeM T ht i hi hx H k
  | none =>
    refine ⟨trivial, ?_⟩
    have : (execOp (ev ρ) ⟨d, .range t x, ty, ps, af, g⟩).run P w = .ok (.value (.pointer (some ⟨w.heap.size, 0, none⟩))) (w.alloc (.mapIter none 0 #[] 0)) := by
      simp [execOp, Instr.range, hx, Sem.run_bind, run_under ht, Result.andThen, Sem.run_pure]
    rw [this]
    obtain ⟨h, _, hl⟩ := H.fact_at i hi
    have hl : l = [] := hl
    refine k _ _ ?_
    have H1 := ((H.pick i hi).drop).alloc (.mapIter none 0 #[] 0)
    exact Hd.weak H1 fun h hh => ⟨⟨hl, hl, rfl⟩, hh⟩
theorem s_nextO {x : Operand} {o : Option Nat} {b : Nat} {l rest : List (κ × Value)} {cur : Option (κ × Value)} (T : KT P kt κ) (i : Nat) (hi : L[i]? = some (MRo T o b l cur rest)) (hx : ev ρ x = .pointer (some ⟨b, 0, none⟩)) (H : Hd s w L)
    (k1 : ∀ p A B w', rest = A ++ p :: B → Hd s w' (L.set i (MRo T o b l (some p) (A ++ B))) → K (.tuple #[.bool true, T.kv p.1, p.2]) w')
    (k0 : rest = [] → K (.tuple #[.bool false]) w) : St P ⟨d, .next x false, ty, ps, af, g⟩ ρ w K := by
  cases o with
  | some m => exact s_nextM T i hi hx H k1 k0
  | none =>
    refine ⟨trivial, ?_⟩
    obtain ⟨h, h1, ⟨_, h3, _⟩, h4⟩ := H.fact_at i hi
    have hb : w.heap[b]? = some (.mapIter none 0 #[] 0) := h1 _ _ h4
    have : (execOp (ev ρ) ⟨d, .next x false, ty, ps, af, g⟩).run P w = .ok (.value (.tuple #[.bool false])) w := by
      simp [execOp, Instr.next, hx, Sem.run_bind, Result.andThen, Sem.run_pure, getObj, Sem.run, hb]
    rw [this]; exact k0 h3
theorem x_entryO {x : Operand} {o : Option Nat} {b : Nat} {l rest : List (κ × Value)} {p : κ × Value} (T : KT P kt κ) (H : Hd s w L) (i : Nat) (hi : L[i]? = some (MRo T o b l (some p) rest)) (hx : ev ρ x = .pointer (some ⟨b, 0, none⟩)) :
    (execOp (ev ρ) ⟨d, .entry x, ty, ps, af, g⟩).run P w = .ok (.value (.tuple #[T.kv p.1, p.2])) w := by
  cases o with
  | some m => exact x_entry T H i hi hx
  | none =>
    obtain ⟨h, h1, ⟨_, _, h3⟩, h4⟩ := H.fact_at i hi
    cases h3
/-- what is new above all that was -/
theorem Hd.frame {A : List Hp} {w0 : World} [NoEx s] (H0 : Hd s w0 L) (H : Hd (sy w0) w (A ++ [fr w0])) : Hd s w (A ++ L) := by
  have H1 : Hd (sy w0) w (KE.sep A :: [fr w0]) := Hd.sep (A := A) H
  obtain ⟨⟨e1, e2, e3, _⟩, h, hs, a, b, hd, rfl, ha, c, d2, hcd, rfl, hc, _⟩ := H1
  obtain ⟨⟨f1, f2, f3, _⟩, h', hs', hL⟩ := H0
  have key : ∀ i o, h' i = some o → c i = some o := fun i o hi => hc i o (hs' i o hi)
  have hdis : hdis a h' := fun i => by
    cases hi : h' i with
    | none => exact .inr rfl
    | some o =>
      rcases hd i with e | e
      · exact .inl e
      · simp [hor, key i o hi] at e
  refine Hd.unsep (A := A) ⟨⟨e1.trans f1, e2.trans f2, e3.trans f3, fun d hx => by rw [(inferInstance : NoEx s).none] at hx; cases hx⟩, hor a h', fun i o hi => ?_, a, h', hdis, rfl, ha, hL⟩
  cases ea : a i with
  | some o' =>
    simp [hor, ea] at hi; subst hi
    exact hs i _ (by simp [hor, ea])
  | none =>
    simp [hor, ea] at hi
    exact hs i _ (by simp [hor, ea, key i o hi])
end
end KE
