/-
  The engine of this proof, for any program: a region that draws its order is walked in one order. No condition.
-/
import Derived.Test.YtpoahelomhjnaaaKEb
set_option linter.unusedVariables false
set_option linter.unusedSimpArgs false
namespace KE
open Go Go.RowKit

/-! ### a region that draws its order: walked in ONE order (reads as early as they can be) -/
def plainOp (o : Oper) : Bool := match o.op with | .defer _ => false | .select _ _ => false | _ => true
/-- a reading: the value, the world unturned -/
def RS (P : Program) (ops : Array Oper) (o : Oper) (ρ : Nat → Value) (w : World) (v : Value) : Prop :=
  plainOp o = true ∧ ((Region.wanted o (yieldE ops ρ) = true ∧ (execOp (ev ρ) o).run P w = .ok (.value v) w) ∨ (Region.wanted o (yieldE ops ρ) = false ∧ v = undef))
def RSk (P : Program) (ops : Array Oper) (k : Nat) (ρ : Nat → Value) (w : World) : Prop :=
  match ops[k]? with
  | some o => (match o.dst with | some d => RS P ops o ρ w (ρ d) | none => False)
  | none => False
def Stab (P : Program) (ops : Array Oper) (bf : List Nat) : List Nat → (Nat → Value) → World → Prop
  | [], _, _ => True
  | k :: t, ρ, w => (bif bf.contains k then True else RSk P ops k ρ w) ∧ Stab P ops bf t ρ w
def WK (P : Program) (r : Option Nat) (N : Nat) (ops : Array Oper) (eff : List Nat) (bef : List (List Nat)) (Q : QE) : List Nat → List Nat → (Nat → Value) → List Nat → World → Prop
  | [], _, ρ, ds, w => Q .normal ρ ds w
  | i :: rest, pend, ρ, ds, w =>
    match ops[i]? with
    | none => False
    | some o =>
      bif eff.contains i then
        (Region.wanted o (yieldE ops ρ) = true ∧ St P o ρ w fun v w' => Stab P ops (bef.getD i []) pend (updO ρ o.dst v) w' ∧ WK P r N ops eff bef Q rest pend (updO ρ o.dst v) ds w') ∨
        (Region.wanted o (yieldE ops ρ) = false ∧ Stab P ops (bef.getD i []) pend (updO ρ o.dst undef) w ∧ WK P r N ops eff bef Q rest pend (updO ρ o.dst undef) ds w)
      else ∃ v, RS P ops o ρ w v ∧ WK P r N ops eff bef Q rest (i :: pend) (updO ρ o.dst v) ds w

/-! what is asked of the order: all of it decided on the text -/
def befOk (ops : Array Oper) (bef : List (List Nat)) : Bool :=
  (List.range ops.size).all fun i => ((bef.getD i []).all fun k => match ops[i]? with
    | some o => o.after.toList.any fun e => Region.binds .any e && (e.on == k || (bef.getD e.on []).contains k)
    | none => false)
def downOk (ops : Array Oper) : Bool :=
  (List.range ops.size).all fun i => match ops[i]? with
    | some o => o.after.toList.all fun e => !Region.binds .any e || Nat.blt e.on i
    | none => false
def looks (ops : Array Oper) (i : Nat) : List Nat := match ops[i]? with | some o => o.looksAt ops | none => []
def dstOf (ops : Array Oper) (i : Nat) : Option Nat := (ops[i]?).bind (·.dst)
def topoOk (eff : List Nat) (bef : List (List Nat)) : List Nat → List Nat → Bool
  | _, [] => true
  | done, i :: rest => ((bef.getD i []).all fun k => done.contains k) && (!eff.contains i || rest.all fun q => (bef.getD q []).contains i) && topoOk eff bef (i :: done) rest
def namesOk (N : Nat) (ops : Array Oper) (eff : List Nat) (bef : List (List Nat)) : Bool :=
  (List.range ops.size).all fun j => okD N (dstOf ops j) && (match ops[j]? with | some o => plainOp o | none => false) && (match dstOf ops j with
    | none => eff.contains j
    | some d => bif eff.contains j then
        (List.range ops.size).all fun i => i == j || ((!(looks ops i).contains d || (bef.getD i []).contains j || (bef.getD j []).contains i) && (dstOf ops i != some d || (bef.getD i []).contains j || (bef.getD j []).contains i))
      else (List.range ops.size).all fun i => (!(looks ops i).contains d || (i != j && (bef.getD i []).contains j)) && (i == j || dstOf ops i != some d))
def canOk (N : Nat) (ops : Array Oper) (eff : List Nat) (bef : List (List Nat)) (can : List Nat) : Bool :=
  befOk ops bef && downOk ops && topoOk eff bef [] can && namesOk N ops eff bef && can.length == ops.size && decide can.Nodup && (can.all fun i => Nat.blt i ops.size) && (List.range ops.size).all fun i => can.contains i

section
variable {P : Program} {r : Option Nat} {N : Nat} {ops : Array Oper} {eff : List Nat} {bef : List (List Nat)} {Q : QE}
theorem blt_lt {a b : Nat} (h : Nat.blt a b = true) : a < b := by
  have : a + 1 ≤ b := by simpa [Nat.blt] using h
  exact this
theorem ev_congr {ρ ρ' : Nat → Value} {o : Oper} (hp : plainOp o = true) (h : ∀ t ∈ o.looksAt ops, ρ t = ρ' t) : execOp (ev ρ) o = execOp (ev ρ') o := by
  refine execOp_congr o (fun cs b e => by rw [plainOp, e] at hp; cases hp) fun x hx => ?_
  cases x with
  | tmp t => exact h t (List.mem_append_left _ (List.mem_filterMap.2 ⟨.tmp t, by simpa using hx, rfl⟩))
  | const v => rfl
  | global g => rfl
  | func f => rfl
theorem wanted_congr {ρ ρ' : Nat → Value} {o : Oper} (h : ∀ t ∈ o.looksAt ops, ρ t = ρ' t) : Region.wanted o (yieldE ops ρ) = Region.wanted o (yieldE ops ρ') := by
  unfold Region.wanted
  cases hg : o.guard with
  | none => rfl
  | some gw =>
    obtain ⟨g, want⟩ := gw
    have hy : yieldE ops ρ g = yieldE ops ρ' g := by
      unfold yieldE
      cases ht : (ops[g]?).bind (·.dst) with
      | none => rfl
      | some t =>
        have := h t (List.mem_append_right _ (by simp [hg, ht]))
        simp only [this]
    simp only [hy]
theorem RS.congr {ρ ρ' : Nat → Value} {o : Oper} {w : World} {v : Value} (hs : RS P ops o ρ w v) (h : ∀ t ∈ o.looksAt ops, ρ t = ρ' t) : RS P ops o ρ' w v := by
  refine ⟨hs.1, ?_⟩
  rw [← wanted_congr h, ← ev_congr (ops := ops) hs.1 h]
  exact hs.2
theorem updO_other {ρ : Nat → Value} {d : Option Nat} {v : Value} {t : Nat} (h : d ≠ some t) : updO ρ d v t = ρ t := by
  cases d with
  | none => rfl
  | some d =>
    have : Nat.beq t d = false := beq_ne (fun e => h (by rw [e]))
    simp [updO, upd, this]
theorem updO_same {ρ : Nat → Value} {t : Nat} {v : Value} : updO ρ (some t) v t = v := by simp [updO, upd, beq_self]

/-- what holds between the order walked and the order taken -/
structure Inv (P : Program) (N : Nat) (ops : Array Oper) (eff : List Nat) (bef : List (List Nat)) (listed : Array Bool) (late can done : List Nat) (ρ : Nat → Value) (ds : List Nat) (a : Act) (w : World) : Prop where
  size : listed.size = ops.size
  free : ∀ i, i < ops.size → (listed.getD i true = false ↔ (i ∈ late ∨ i ∈ can))
  closed : ∀ i, i < ops.size → listed.getD i true = true → ∀ k ∈ bef.getD i [], listed.getD k false = true
  lateN : late.Nodup
  lateD : ∀ i ∈ late, i ∈ done
  lateC : ∀ i ∈ late, i ∉ can
  ltD : ∀ i ∈ done, i < ops.size
  ltC : ∀ i ∈ can, i < ops.size
  topo : topoOk eff bef done can = true
  doneB : ∀ i ∈ done, ∀ k ∈ bef.getD i [], k ∈ done
  doneC : ∀ i ∈ done, i ∉ can
  canN : can.Nodup
  tsize : a.tmps.size = N
  tds : a.defers = ds.map mk
  agree : ∀ k, (∀ j ∈ late, dstOf ops j ≠ some k) → a.tmps.getD k undef = ρ k
  reads : ∀ j ∈ late, eff.contains j = false ∧ RSk P ops j ρ w

theorem getD_set {l : Array Bool} {i k : Nat} {b : Bool} (hk : k < l.size) : (l.setIfInBounds i true).getD k b = if k = i then true else l.getD k b := by
  simp only [Array.getD_eq_getD_getElem?, Array.getElem?_setIfInBounds]
  by_cases e : i = k
  · subst e; simp [hk]
  · simp [e, Ne.symm e]
theorem getD_def {l : Array Bool} {k : Nat} (hk : k < l.size) : l.getD k true = l.getD k false := by
  simp [Array.getD_eq_getD_getElem?, Array.getElem?_eq_getElem hk]
theorem names_of (h : namesOk N ops eff bef = true) {j : Nat} (hj : j < ops.size) : okD N (dstOf ops j) = true ∧ (∀ o, ops[j]? = some o → plainOp o = true) ∧
    (eff.contains j = false → ∃ d, dstOf ops j = some d ∧ ∀ i, i < ops.size → ((d ∈ looks ops i → i ≠ j ∧ j ∈ bef.getD i []) ∧ (i ≠ j → dstOf ops i ≠ some d))) ∧
    (eff.contains j = true → ∀ d, dstOf ops j = some d → ∀ i, i < ops.size → i ≠ j → ((d ∈ looks ops i → j ∈ bef.getD i [] ∨ i ∈ bef.getD j []) ∧ (dstOf ops i = some d → j ∈ bef.getD i [] ∨ i ∈ bef.getD j []))) := by
  have h1 := List.all_eq_true.1 h j (List.mem_range.2 hj)
  simp only [Bool.and_eq_true] at h1
  obtain ⟨⟨h1, h2⟩, h3⟩ := h1
  refine ⟨h1, fun o ho => by rw [ho] at h2; exact h2, fun he => ?_, fun he d hd => ?_⟩
  · cases hd : dstOf ops j with
    | none => rw [hd] at h3; simp only at h3; rw [he] at h3; cases h3
    | some d =>
      refine ⟨d, rfl, fun i hi => ?_⟩
      rw [hd] at h3
      simp only [he, cond_false] at h3
      have := List.all_eq_true.1 h3 i (List.mem_range.2 hi)
      simp only [Bool.and_eq_true, Bool.or_eq_true, Bool.not_eq_true', bne_iff_ne, ne_eq, beq_iff_eq, List.contains_iff_mem, decide_eq_true_eq] at this
      refine ⟨fun hl => ?_, fun hne => this.2.resolve_left hne⟩
      rcases this.1 with h4 | h4
      · rw [← Bool.not_eq_true, List.contains_iff_mem] at h4; exact absurd hl h4
      · exact h4
  · intro i hi hne
    rw [hd] at h3
    simp only [he, cond_true] at h3
    have := (List.all_eq_true.1 h3 i (List.mem_range.2 hi))
    simp only [Bool.and_eq_true, Bool.or_eq_true, Bool.not_eq_true', bne_iff_ne, ne_eq, beq_iff_eq, List.contains_iff_mem] at this
    have := this.resolve_left hne
    refine ⟨fun hl => ?_, fun hl => ?_⟩
    · rcases this.1 with (h4 | h4) | h4
      · rw [← Bool.not_eq_true, List.contains_iff_mem] at h4; exact absurd hl h4
      · exact .inl h4
      · exact .inr h4
    · rcases this.2 with (h4 | h4) | h4
      · exact absurd hl h4
      · exact .inl h4
      · exact .inr h4
theorem bef_edges (hb : befOk ops bef = true) {i k : Nat} (hi : i < ops.size) (hk : k ∈ bef.getD i []) : ∃ o e, ops[i]? = some o ∧ e ∈ o.after.toList ∧ Region.binds .any e = true ∧ (e.on = k ∨ k ∈ bef.getD e.on []) := by
  have h1 := List.all_eq_true.1 (List.all_eq_true.1 hb i (List.mem_range.2 hi)) k hk
  revert h1
  cases ho : ops[i]? with
  | none => intro h1; cases h1
  | some o =>
    intro h1
    obtain ⟨e, he, h2⟩ := List.any_eq_true.1 h1
    simp only [Bool.and_eq_true, Bool.or_eq_true, beq_iff_eq, List.contains_iff_mem] at h2
    exact ⟨o, e, rfl, he, h2.1, h2.2⟩
theorem mem_ready {listed : Array Bool} {i : Nat} (h : i ∈ Region.ready .any ops listed) : i < ops.size ∧ listed.getD i true = false ∧ ∃ o, ops[i]? = some o ∧ ∀ e ∈ o.after.toList, Region.binds .any e = true → listed.getD e.on false = true := by
  unfold Region.ready at h
  obtain ⟨h1, h2⟩ := List.mem_filter.1 h
  have hlt := List.mem_range.1 h1
  simp only [Bool.and_eq_true, Bool.not_eq_true'] at h2
  refine ⟨hlt, h2.1, ops[i], Array.getElem?_eq_getElem hlt, fun e he hb => ?_⟩
  have h3 := h2.2
  rw [Array.getElem?_eq_getElem hlt] at h3
  simp only [Option.map_some, Option.getD_some, Array.all_eq_true_iff_forall_mem] at h3
  have := h3 e (by simpa using he)
  simpa [hb] using this
theorem ready_of {listed : Array Bool} {i : Nat} (hlt : i < ops.size) (hf : listed.getD i true = false) (h : ∀ o, ops[i]? = some o → ∀ e ∈ o.after.toList, Region.binds .any e = true → listed.getD e.on false = true) : i ∈ Region.ready .any ops listed := by
  unfold Region.ready
  refine List.mem_filter.2 ⟨List.mem_range.2 hlt, ?_⟩
  simp only [Bool.and_eq_true, Bool.not_eq_true']
  refine ⟨hf, ?_⟩
  rw [Array.getElem?_eq_getElem hlt]
  simp only [Option.map_some, Option.getD_some, Array.all_eq_true_iff_forall_mem]
  intro e he
  cases hb : Region.binds .any e with
  | false => rfl
  | true => simpa using h _ (Array.getElem?_eq_getElem hlt) e (by simpa using he) hb

theorem Inv.look {listed : Array Bool} {late can done : List Nat} {ρ : Nat → Value} {ds : List Nat} {a : Act} {w : World} (I : Inv P N ops eff bef listed late can done ρ ds a w) (hn : namesOk N ops eff bef = true)
    {i : Nat} (hlt : i < ops.size) (hr : ∀ k ∈ bef.getD i [], listed.getD k false = true) : ∀ t ∈ looks ops i, a.tmps.getD t undef = ρ t := by
  intro t ht
  refine I.agree t fun j hj hd => ?_
  have hjd := I.ltD j (I.lateD j hj)
  obtain ⟨d, hd2, h3⟩ := (names_of hn hjd).2.2.1 (I.reads j hj).1
  rw [hd2] at hd
  cases hd
  have := ((h3 i hlt).1 ht).2
  have hl := hr j this
  have := (I.free j hjd).2 (.inl hj)
  rw [getD_def (by rw [I.size]; exact hjd), hl] at this
  cases this
theorem ready_bef (hb : befOk ops bef = true) {listed : Array Bool} (hs : listed.size = ops.size) (hcl : ∀ i, i < ops.size → listed.getD i true = true → ∀ k ∈ bef.getD i [], listed.getD k false = true)
    {i : Nat} (h : i ∈ Region.ready .any ops listed) : ∀ k ∈ bef.getD i [], listed.getD k false = true := by
  intro k hk
  obtain ⟨hlt, hf, o, ho, he⟩ := mem_ready h
  obtain ⟨o', e, ho', hm, hbd, hor⟩ := bef_edges hb hlt hk
  rw [ho] at ho'; cases ho'
  have hl := he e hm hbd
  rcases hor with rfl | h2
  · exact hl
  · have hlt2 : e.on < listed.size := by
      rcases Nat.lt_or_ge e.on listed.size with h | h
      · exact h
      · simp [Array.getD_eq_getD_getElem?, Array.getElem?_eq_none h] at hl
    exact hcl e.on (by omega) (by rw [getD_def hlt2]; exact hl) k h2
theorem Inv.adv {listed : Array Bool} {i : Nat} (hn : namesOk N ops eff bef = true) (hr : ∀ k ∈ bef.getD i [], listed.getD k false = true) :
    ∀ (can late done pend : List Nat) (ρ : Nat → Value) (ds : List Nat) (a : Act) (w : World), Inv P N ops eff bef listed late can done ρ ds a w → WK P r N ops eff bef Q can pend ρ ds w → (∀ k ∈ late, k ∈ pend) → i ∈ can →
      ∃ late' can' done' pend' ρ', Inv P N ops eff bef listed late' can' done' ρ' ds a w ∧ WK P r N ops eff bef Q can' pend' ρ' ds w ∧ (∀ k ∈ late', k ∈ pend') ∧ late'.length + can'.length = late.length + can.length ∧
        (i ∈ late' ∨ ∃ rest, can' = i :: rest ∧ eff.contains i = true) := by
  intro can
  induction can with
  | nil => intro late done pend ρ ds a w _ _ _ hi; cases hi
  | cons j rest ih =>
    intro late done pend ρ ds a w I hk hp hi
    have hjlt := I.ltC j List.mem_cons_self
    have ht := I.topo
    simp only [topoOk, Bool.and_eq_true] at ht
    obtain ⟨⟨ht1, ht2⟩, ht3⟩ := ht
    cases he : eff.contains j with
    | true =>
      rcases List.mem_cons.1 hi with rfl | hir
      · exact ⟨late, i :: rest, done, pend, ρ, I, hk, hp, rfl, .inr ⟨rest, rfl, he⟩⟩
      · exfalso
        simp only [he, Bool.not_true, Bool.false_or] at ht2
        have := List.all_eq_true.1 ht2 i hir
        have hl := hr j (List.contains_iff_mem.1 this)
        have h0 := (I.free j hjlt).2 (.inr List.mem_cons_self)
        rw [getD_def (by rw [I.size]; exact hjlt), hl] at h0
        cases h0
    | false =>
      simp only [WK] at hk
      rw [Array.getElem?_eq_getElem hjlt] at hk
      simp only [he, cond_false] at hk
      obtain ⟨v, hrs, hk⟩ := hk
      obtain ⟨d, hd, h3⟩ := (names_of hn hjlt).2.2.1 he
      have hdst : ops[j].dst = some d := by simpa [dstOf, Array.getElem?_eq_getElem hjlt] using hd
      have hjn : j ∉ rest := (List.nodup_cons.1 I.canN).1
      have hjl : j ∉ late := fun h => I.lateC j h List.mem_cons_self
      have I' : Inv P N ops eff bef listed (j :: late) rest (j :: done) (updO ρ ops[j].dst v) ds a w := by
        refine ⟨I.size, ?_, I.closed, List.nodup_cons.2 ⟨hjl, I.lateN⟩, ?_, ?_, ?_, fun k hk => I.ltC k (List.mem_cons_of_mem _ hk), ht3, ?_, ?_, (List.nodup_cons.1 I.canN).2, I.tsize, I.tds, ?_, ?_⟩
        · intro k hk
          rw [I.free k hk]
          simp only [List.mem_cons]
          constructor
          · rintro (h | h | h)
            · exact .inl (.inr h)
            · exact .inl (.inl h)
            · exact .inr h
          · rintro ((h | h) | h)
            · exact .inr (.inl h)
            · exact .inl h
            · exact .inr (.inr h)
        · intro k hk
          rcases List.mem_cons.1 hk with rfl | hk
          · exact List.mem_cons_self
          · exact List.mem_cons_of_mem _ (I.lateD k hk)
        · intro k hk
          rcases List.mem_cons.1 hk with rfl | hk
          · exact hjn
          · exact fun h => I.lateC k hk (List.mem_cons_of_mem _ h)
        · intro k hk
          rcases List.mem_cons.1 hk with rfl | hk
          · exact hjlt
          · exact I.ltD k hk
        · intro k hk q hq
          rcases List.mem_cons.1 hk with rfl | hk
          · exact List.mem_cons_of_mem _ (List.contains_iff_mem.1 (List.all_eq_true.1 ht1 q hq))
          · exact List.mem_cons_of_mem _ (I.doneB k hk q hq)
        · intro k hk
          rcases List.mem_cons.1 hk with rfl | hk
          · exact hjn
          · exact fun h => I.doneC k hk (List.mem_cons_of_mem _ h)
        · intro k hk
          have hkd : dstOf ops j ≠ some k := hk j List.mem_cons_self
          rw [updO_other (by rw [hdst, ← hd]; exact hkd)]
          exact I.agree k fun q hq => hk q (List.mem_cons_of_mem _ hq)
        · intro k hk
          rcases List.mem_cons.1 hk with rfl | hk2
          · refine ⟨he, ?_⟩
            simp only [RSk, Array.getElem?_eq_getElem hjlt, hdst, updO_same]
            rw [hdst] at *
            refine RS.congr hrs fun t ht => (updO_other ?_).symm
            intro e; cases e
            exact absurd rfl ((h3 k hjlt).1 (by simpa [looks, Array.getElem?_eq_getElem hjlt] using ht)).1
          · obtain ⟨e1, e2⟩ := I.reads k hk2
            have hkd := I.lateD k hk2
            have hklt := I.ltD k hkd
            have hne : k ≠ j := fun e => hjl (e ▸ hk2)
            refine ⟨e1, ?_⟩
            simp only [RSk, Array.getElem?_eq_getElem hklt] at e2 ⊢
            cases hkdst : ops[k].dst with
            | none => rw [hkdst] at e2; exact e2
            | some dk =>
              rw [hkdst] at e2
              simp only at e2 ⊢
              have hdk : dstOf ops k = some dk := by simp [dstOf, Array.getElem?_eq_getElem hklt, hkdst]
              have h4 := (h3 k hklt).2 hne
              rw [updO_other (by rw [hdst]; intro e; cases e; exact h4 hdk)]
              refine RS.congr e2 fun t ht => (updO_other ?_).symm
              rw [hdst]; intro e; cases e
              have := ((h3 k hklt).1 (by simpa [looks, Array.getElem?_eq_getElem hklt] using ht)).2
              exact I.doneC j (I.doneB k hkd j this) List.mem_cons_self
      rcases List.mem_cons.1 hi with rfl | hir
      · exact ⟨_, _, _, _, _, I', hk, fun k h => by
          rcases List.mem_cons.1 h with rfl | h
          · exact List.mem_cons_self
          · exact List.mem_cons_of_mem _ (hp k h), by simp; omega, .inl List.mem_cons_self⟩
      · obtain ⟨l', c', d', p', ρ', g1, g2, g3, g4, g5⟩ := ih _ _ _ _ _ _ _ I' hk (fun k h => by
          rcases List.mem_cons.1 h with rfl | h
          · exact List.mem_cons_self
          · exact List.mem_cons_of_mem _ (hp k h)) hir
        exact ⟨l', c', d', p', ρ', g1, g2, g3, by rw [g4]; simp; omega, g5⟩

theorem Inv.empty {listed : Array Bool} {late can done : List Nat} {ρ : Nat → Value} {ds : List Nat} {a : Act} {w : World} (I : Inv P N ops eff bef listed late can done ρ ds a w)
    (hd : downOk ops = true) (h : Region.ready .any ops listed = []) : late = [] ∧ can = [] := by
  have key : ∀ n, ∀ i, i ≤ n → i < ops.size → listed.getD i true = true := by
    intro n
    induction n with
    | zero =>
      intro i hi hlt
      cases hf : listed.getD i true with
      | true => rfl
      | false =>
        exfalso
        have : i ∈ Region.ready .any ops listed := ready_of hlt hf fun o ho e he hb => by
          have h1 := List.all_eq_true.1 hd i (List.mem_range.2 hlt)
          rw [ho] at h1
          have h2 := List.all_eq_true.1 h1 e he
          simp only [hb, Bool.not_true, Bool.false_or] at h2
          have := blt_lt h2
          omega
        rw [h] at this; cases this
    | succ n ih =>
      intro i hi hlt
      cases hf : listed.getD i true with
      | true => rfl
      | false =>
        exfalso
        have : i ∈ Region.ready .any ops listed := ready_of hlt hf fun o ho e he hb => by
          have h1 := List.all_eq_true.1 hd i (List.mem_range.2 hlt)
          rw [ho] at h1
          have h2 := List.all_eq_true.1 h1 e he
          simp only [hb, Bool.not_true, Bool.false_or] at h2
          have h3 := blt_lt h2
          have h4 := ih e.on (by omega) (by omega)
          rw [getD_def (by rw [I.size]; omega)] at h4
          exact h4
        rw [h] at this; cases this
  constructor
  · cases late with
    | nil => rfl
    | cons x l =>
      have hx := I.ltD x (I.lateD x List.mem_cons_self)
      have := (I.free x hx).2 (.inl List.mem_cons_self)
      rw [key x x (Nat.le_refl _) hx] at this; cases this
  · cases can with
    | nil => rfl
    | cons x l =>
      have hx := I.ltC x List.mem_cons_self
      have := (I.free x hx).2 (.inr List.mem_cons_self)
      rw [key x x (Nat.le_refl _) hx] at this; cases this
theorem Inv.stepLate {listed : Array Bool} {late can done : List Nat} {ρ : Nat → Value} {ds : List Nat} {a : Act} {w : World} (I : Inv P N ops eff bef listed late can done ρ ds a w) (hn : namesOk N ops eff bef = true)
    {i d : Nat} (hi : i ∈ late) (hd : dstOf ops i = some d) (hr : ∀ k ∈ bef.getD i [], listed.getD k false = true) :
    Inv P N ops eff bef (listed.setIfInBounds i true) (late.erase i) can done ρ ds (a.put (some d) (ρ d)) w := by
  have hlt := I.ltD i (I.lateD i hi)
  have hls : i < listed.size := by rw [I.size]; exact hlt
  have hsub : ∀ k, k ∈ late.erase i → k ∈ late := fun k hk => List.mem_of_mem_erase hk
  obtain ⟨d', hd', h3⟩ := (names_of hn hlt).2.2.1 (I.reads i hi).1
  rw [hd] at hd'; cases hd'
  have hdN : d < N := by have := (names_of hn hlt).1; rw [hd] at this; exact blt_lt this
  refine ⟨by simp [I.size], ?_, ?_, I.lateN.erase i, fun k hk => I.lateD k (hsub k hk), fun k hk => I.lateC k (hsub k hk), I.ltD, I.ltC, I.topo, I.doneB, I.doneC, I.canN, by simp [Act.put, I.tsize], I.tds, ?_, fun k hk => I.reads k (hsub k hk)⟩
  · intro k hk
    rw [getD_set (by rw [I.size]; exact hk)]
    by_cases e : k = i
    · subst e
      simp only [if_pos]
      constructor
      · intro h; cases h
      · rintro (h | h)
        · exact absurd h (fun h => (List.Nodup.not_mem_erase I.lateN) h)
        · exact absurd h (I.lateC k hi)
    · rw [if_neg e, I.free k hk, List.mem_erase_of_ne e]
  · intro k hk hl q hq
    have hqs : ∀ b : Bool, q < listed.size → (listed.setIfInBounds i true).getD q b = if q = i then true else listed.getD q b := fun b h => getD_set h
    rw [getD_set (by rw [I.size]; exact hk)] at hl
    have hold : listed.getD q false = true := by
      by_cases e : k = i
      · subst e; exact hr q hq
      · rw [if_neg e] at hl; exact I.closed k hk hl q hq
    have hq2 : q < listed.size := by
      rcases Nat.lt_or_ge q listed.size with h | h
      · exact h
      · simp [Array.getD_eq_getD_getElem?, Array.getElem?_eq_none h] at hold
    rw [hqs _ hq2]
    split <;> simp_all
  · intro k hk
    by_cases e : k = d
    · subst e
      simp [Act.put, Array.getD_eq_getD_getElem?, I.tsize, hdN]
    · have : (a.put (some d) (ρ d)).tmps.getD k undef = a.tmps.getD k undef := by simp [Act.put, Array.getD_eq_getD_getElem?, Array.getElem?_setIfInBounds_ne (Ne.symm e)]
      rw [this]
      refine I.agree k fun j hj => ?_
      by_cases e2 : j = i
      · subst e2; rw [hd]; intro h; cases h; exact e rfl
      · exact hk j ((List.mem_erase_of_ne e2).2 hj)
theorem Inv.stepEff {listed : Array Bool} {late rest done : List Nat} {ρ : Nat → Value} {ds : List Nat} {a : Act} {w w' : World} {i : Nat} {v : Value} {pend : List Nat} (I : Inv P N ops eff bef listed late (i :: rest) done ρ ds a w) (hn : namesOk N ops eff bef = true)
    (he : eff.contains i = true) (hr : ∀ k ∈ bef.getD i [], listed.getD k false = true) (hp : ∀ k ∈ late, k ∈ pend) (hst : Stab P ops (bef.getD i []) pend (updO ρ (dstOf ops i) v) w') :
    Inv P N ops eff bef (listed.setIfInBounds i true) late rest (i :: done) (updO ρ (dstOf ops i) v) ds (a.put (dstOf ops i) v) w' := by
  have hlt := I.ltC i List.mem_cons_self
  have hls : i < listed.size := by rw [I.size]; exact hlt
  have ht := I.topo
  simp only [topoOk, Bool.and_eq_true] at ht
  obtain ⟨⟨ht1, ht2⟩, ht3⟩ := ht
  have hil : i ∉ late := fun h => I.lateC i h List.mem_cons_self
  have hir : i ∉ rest := (List.nodup_cons.1 I.canN).1
  have hlate : ∀ k ∈ late, k ∉ bef.getD i [] := fun k hk hb => by
    have hkd := I.ltD k (I.lateD k hk)
    have h0 := (I.free k hkd).2 (.inl hk)
    rw [getD_def (by rw [I.size]; exact hkd), hr k hb] at h0
    cases h0
  refine ⟨by simp [I.size], ?_, ?_, I.lateN, fun k hk => List.mem_cons_of_mem _ (I.lateD k hk), fun k hk h => I.lateC k hk (List.mem_cons_of_mem _ h), ?_, fun k hk => I.ltC k (List.mem_cons_of_mem _ hk), ht3, ?_, ?_, (List.nodup_cons.1 I.canN).2, ?_, ?_, ?_, ?_⟩
  · intro k hk
    rw [getD_set (by rw [I.size]; exact hk)]
    by_cases e : k = i
    · subst e
      simp only [if_pos]
      constructor
      · intro h; cases h
      · rintro (h | h)
        · exact absurd h hil
        · exact absurd h hir
    · rw [if_neg e, I.free k hk, List.mem_cons]
      constructor
      · rintro (h | h | h)
        · exact .inl h
        · exact absurd h e
        · exact .inr h
      · rintro (h | h)
        · exact .inl h
        · exact .inr (.inr h)
  · intro k hk hl q hq
    rw [getD_set (by rw [I.size]; exact hk)] at hl
    have hold : listed.getD q false = true := by
      by_cases e : k = i
      · subst e; exact hr q hq
      · rw [if_neg e] at hl; exact I.closed k hk hl q hq
    have hq2 : q < listed.size := by
      rcases Nat.lt_or_ge q listed.size with h | h
      · exact h
      · simp [Array.getD_eq_getD_getElem?, Array.getElem?_eq_none h] at hold
    rw [getD_set hq2]
    split <;> simp_all
  · intro k hk
    rcases List.mem_cons.1 hk with rfl | hk
    · exact hlt
    · exact I.ltD k hk
  · intro k hk q hq
    rcases List.mem_cons.1 hk with rfl | hk
    · exact List.mem_cons_of_mem _ (List.contains_iff_mem.1 (List.all_eq_true.1 ht1 q hq))
    · exact List.mem_cons_of_mem _ (I.doneB k hk q hq)
  · intro k hk
    rcases List.mem_cons.1 hk with rfl | hk
    · exact hir
    · exact fun h => I.doneC k hk (List.mem_cons_of_mem _ h)
  · cases dstOf ops i <;> simp [Act.put, I.tsize]
  · cases dstOf ops i <;> exact I.tds
  · intro k hk
    have hdN := (names_of hn hlt).1
    cases hd : dstOf ops i with
    | none => exact I.agree k hk
    | some d =>
      rw [hd] at hdN
      have hdN := blt_lt hdN
      by_cases e : k = d
      · subst e
        rw [updO_same]
        simp [Act.put, Array.getD_eq_getD_getElem?, I.tsize, hdN]
      · rw [updO_other (by intro h; cases h; exact e rfl), ← I.agree k hk]
        simp [Act.put, Array.getD_eq_getD_getElem?, Array.getElem?_setIfInBounds_ne (Ne.symm e)]
  · intro k hk
    refine ⟨(I.reads k hk).1, ?_⟩
    have hkp := hp k hk
    have hnb := hlate k hk
    clear hp
    induction pend with
    | nil => cases hkp
    | cons x t ih =>
      obtain ⟨s1, s2⟩ := hst
      rcases List.mem_cons.1 hkp with rfl | h
      · have : (bef.getD i []).contains k = false := by
          cases hc : (bef.getD i []).contains k with
          | false => rfl
          | true => exact absurd (List.contains_iff_mem.1 hc) hnb
        rw [this] at s1
        exact s1
      · exact ih s2 h
theorem WK.any {can0 : List Nat} (hc : canOk N ops eff bef can0 = true) : ∀ (fuel : Nat) (listed : Array Bool) (late can done pend : List Nat) (ρ : Nat → Value) (ds : List Nat) (a : Act) (w : World),
    Inv P N ops eff bef listed late can done ρ ds a w → WK P r N ops eff bef Q can pend ρ ds w → (∀ k ∈ late, k ∈ pend) → late.length + can.length = fuel →
    wpAnyIn (Fe r) 0 P .any ops (QA N Q) fuel listed a w := by
  simp only [canOk, Bool.and_eq_true] at hc
  obtain ⟨⟨⟨⟨⟨⟨⟨hb, hdn⟩, _⟩, hn⟩, _⟩, _⟩, _⟩, _⟩ := hc
  have fin : ∀ (listed : Array Bool) (done pend : List Nat) (ρ : Nat → Value) (ds : List Nat) (a : Act) (w : World), Inv P N ops eff bef listed [] [] done ρ ds a w → WK P r N ops eff bef Q [] pend ρ ds w → QA N Q .normal a w :=
    fun listed done pend ρ ds a w I hk => ⟨ρ, ds, ⟨I.tsize, fun k => I.agree k (fun _ h => by cases h), I.tds⟩, hk⟩
  intro fuel
  induction fuel with
  | zero =>
    intro listed late can done pend ρ ds a w I hk hp hl
    obtain rfl : late = [] := List.eq_nil_of_length_eq_zero (by omega)
    obtain rfl : can = [] := List.eq_nil_of_length_eq_zero (by omega)
    refine ⟨?_, fin _ _ _ _ _ _ _ I hk⟩
    cases h : Region.ready .any ops listed with
    | nil => rfl
    | cons i t =>
      obtain ⟨h1, h2, _⟩ := mem_ready (show i ∈ Region.ready .any ops listed by rw [h]; exact List.mem_cons_self)
      rcases (I.free i h1).1 h2 with h | h <;> cases h
  | succ fuel ih =>
    intro listed late can done pend ρ ds a w I hk hp hl
    refine ⟨fun h => ?_, fun i hi => ?_⟩
    · obtain ⟨rfl, rfl⟩ := I.empty hdn h
      simp at hl
    · have hr := ready_bef hb I.size I.closed hi
      obtain ⟨hlt, hf, _⟩ := mem_ready hi
      have hsplit : ∃ late' can' done' pend' ρ', Inv P N ops eff bef listed late' can' done' ρ' ds a w ∧ WK P r N ops eff bef Q can' pend' ρ' ds w ∧ (∀ k ∈ late', k ∈ pend') ∧ late'.length + can'.length = late.length + can.length ∧
          (i ∈ late' ∨ ∃ rest, can' = i :: rest ∧ eff.contains i = true) := by
        rcases (I.free i hlt).1 hf with h | h
        · exact ⟨_, _, _, _, _, I, hk, hp, rfl, .inl h⟩
        · exact Inv.adv hn hr can late done pend ρ ds a w I hk hp h
      clear I hk hp
      obtain ⟨late', can', done', pend', ρ', I, hk, hp, hl', hcase⟩ := hsplit
      have hoi := Array.getElem?_eq_getElem hlt
      have hlook := I.look hn hlt hr
      have hlook' : ∀ t ∈ ops[i].looksAt ops, a.tmps.getD t undef = ρ' t := by simpa [looks, hoi] using hlook
      have hfit : Fits N a (fun k => a.tmps.getD k undef) ds := ⟨I.tsize, fun _ => rfl, I.tds⟩
      have hplain := (names_of hn hlt).2.1 _ hoi
      have hwant : Region.wanted ops[i] (yielded ops a.tmps) = Region.wanted ops[i] (yieldE ops ρ') := by
        rw [show yielded ops a.tmps = yieldE ops (fun k => a.tmps.getD k undef) from funext (yielded_eq hfit)]
        exact wanted_congr hlook'
      have hexec : execOp a.eval ops[i] = execOp (ev ρ') ops[i] := by
        rw [hfit.eval]; exact ev_congr (ops := ops) hplain hlook'
      unfold wpOpIn
      rw [hoi]
      simp only [hwant]
      rcases hcase with hil | ⟨rest, rfl, he⟩
      · have hrd := (I.reads i hil).2
        simp only [RSk, hoi] at hrd
        cases hd : ops[i].dst with
        | none => rw [hd] at hrd; exact hrd.elim
        | some d =>
          rw [hd] at hrd
          simp only at hrd
          have hdo : dstOf ops i = some d := by simp [dstOf, hoi, hd]
          have I' := I.stepLate hn hil hdo hr
          have hnext := ih _ _ _ _ pend' _ _ _ _ I' hk (fun k hk => hp k (List.mem_of_mem_erase hk)) (by
            have := List.length_erase_of_mem hil
            have := List.length_pos_of_mem hil
            omega)
          rcases hrd.2 with ⟨hw, hx⟩ | ⟨hw, hx⟩
          · rw [if_pos hw]
            refine St.wpIn (ρ := ρ') hexec (K := fun v w' => v = ρ' d ∧ w' = w) ⟨by cases ho : ops[i].op <;> simp_all [plainOp], by rw [hx]; exact ⟨rfl, rfl⟩⟩ ?_
            rintro v w' ⟨rfl, rfl⟩
            rw [hd]; exact hnext
          · rw [if_neg (by rw [hw]; simp)]
            refine ⟨fun _ _ => trivial, ?_⟩
            rw [← hx]; exact hnext
      · simp only [WK, hoi, he, cond_true] at hk
        have hdo : dstOf ops i = ops[i].dst := by simp [dstOf, hoi]
        rcases hk with ⟨hw, hst⟩ | ⟨hw, hstab, hk'⟩
        · rw [if_pos hw]
          refine St.wpIn (ρ := ρ') hexec hst ?_
          rintro v w' ⟨hstab, hk'⟩
          rw [← hdo] at hstab hk' ⊢
          exact ih _ _ _ _ pend' _ _ _ _ (I.stepEff hn he hr hp hstab) hk' hp (by simp at hl'; omega)
        · rw [if_neg (by rw [hw]; simp)]
          refine ⟨fun _ _ => trivial, ?_⟩
          rw [← hdo] at hstab hk' ⊢
          exact ih _ _ _ _ pend' _ _ _ _ (I.stepEff hn he hr hp hstab) hk' hp (by simp at hl'; omega)
/-- the rule -/
theorem WC.draw {id : Nat} {l : List Oper} {ρ : Nat → Value} {ds : List Nat} {w : World} (hm : P.follows .mixedOrders = true) (eff : List Nat) (bef : List (List Nat)) (can : List Nat) (hc : canOk N l.toArray eff bef can = true)
    (h : WK P r N l.toArray eff bef Q can [] ρ ds w.drew) : WC P r N (.region id l.toArray true) Q ρ ds w := fun a ha => by
  have hc' := hc
  simp only [canOk, Bool.and_eq_true] at hc'
  obtain ⟨⟨⟨⟨⟨⟨⟨hb, hdn⟩, htp⟩, hn⟩, hlen⟩, hnd⟩, hall⟩, hcov⟩ := hc'
  have hlen : can.length = l.toArray.size := by simpa using hlen
  have hnd : can.Nodup := by simpa using hnd
  have hltc : ∀ i ∈ can, i < l.toArray.size := fun i hi => blt_lt (List.all_eq_true.1 hall i hi)
  have hmem : ∀ i, i < l.toArray.size → i ∈ can := fun i hi => List.contains_iff_mem.1 (List.all_eq_true.1 hcov i (List.mem_range.2 hi))
  have hI : Inv P N l.toArray eff bef (Array.replicate l.toArray.size false) [] can [] ρ ds a w.drew := by
    refine ⟨by simp, ?_, ?_, List.nodup_nil, (fun _ h => by cases h), (fun _ h => by cases h), (fun _ h => by cases h), hltc, htp, (fun _ h => by cases h), (fun _ h => by cases h), hnd, ha.1, ha.2.2, fun k _ => ha.2.1 k, (fun _ h => by cases h)⟩
    · intro i hi
      have : (Array.replicate l.toArray.size false).getD i true = false := by simp [Array.getD_eq_getD_getElem?, Array.getElem?_replicate, show i < l.length by simpa using hi]
      exact ⟨fun _ => .inr (hmem i hi), fun _ => this⟩
    · intro i hi h
      have : (Array.replicate l.toArray.size false).getD i true = false := by simp [Array.getD_eq_getD_getElem?, Array.getElem?_replicate, show i < l.length by simpa using hi]
      rw [this] at h; cases h
  exact wpIn_region_any hm (WK.any hc _ _ _ _ _ _ _ _ _ _ hI h (fun _ h => by cases h) (by simp [hlen]))
end
end KE
