/-
  The engine of this proof, for any program: a range over a function. No condition.
-/
import Derived.Test.YtpoahelomhjnaaaKEf
set_option linter.unusedVariables false
set_option linter.unusedSimpArgs false
namespace KE
open Go Go.RowKit

/-! ### a range over a function -/
def setP (ρ : Nat → Value) (ps : List Tmp) (vs : List Value) : Nat → Value := (ps.zip vs).foldl (fun ρ p => upd ρ p.1 p.2) ρ
/-- what yield promises to an iterator that tells xs: E x vs: the values vs stand for the element x, with what they own -/
def YS {α : Type} (P : Program) (s : Sy) (l : Nat) (E : α → List Value → Hp) (xs : List α) (J X : List α → Hp) : Prop :=
  ∀ pre x rest vs w L', xs = pre ++ x :: rest → Hd s w (J pre :: E x vs :: L') →
    YY P l vs.toArray w fun v w' => (v = .bool true ∧ Hd s w' (J (pre ++ [x]) :: L')) ∨ (v = .bool false ∧ Hd s w' (X (pre ++ [x]) :: L'))
/-- an iterator: function f, with what it has captured; A: what it needs, B: what it leaves -/
def IT {α : Type} (P : Program) (s : Sy) (f : FuncId) (caps : List Value) (E : α → List Value → Hp) (xs : List α) (A : Hp) (B : List α → Hp) : Prop :=
  ∀ l J X w L, YS P s l E xs J X → Hd s w (J [] :: A :: L) → CC P f (.func (.yield l) #[] #[] :: caps).toArray w fun _ w' =>
    Hd s w' (J xs :: B xs :: L) ∨ ∃ pre x rest, xs = pre ++ x :: rest ∧ Hd s w' (X (pre ++ [x]) :: B (pre ++ [x]) :: L)
/-- the loop's record -/
def LR (N : Nat) (ρ : Nat → Value) (ps : Array Tmp) (asg body : Code) (l : Nat) (st : LoopState) (pd : Option Code) : Hp := fun h =>
  ∃ rec : Loop, (rec.state = st ∧ rec.pending = pd ∧ rec.params = ps ∧ rec.assign = asg ∧ rec.body = body ∧ rec.tmps.size = N ∧ ∀ k, rec.tmps.getD k undef = ρ k) ∧ pt l (.loop rec) h
def roundE (s : Sy) (I : Hp) (X : Code → Hp) (L : List Hp) : QE
  | .normal, _, _, w => Hd s w (I :: L)
  | .ret, _, _, w => Hd s w (X .ret :: L)
  | .exit id, _, _, w => Hd s w (X (.exit id) :: L)
  | .goto t, _, _, w => Hd s w (X (.goto t) :: L)
  | _, _, _, _ => False
def noE (K : (Nat → Value) → List Nat → World → Prop) : QE
  | .normal => K
  | _ => fun _ _ _ => False

theorem setP_fits {N : Nat} : ∀ (ps : List Tmp) (vs : List Value) (ρ : Nat → Value) (tmps : Array Value), (∀ p ∈ ps, p < N) → tmps.size = N → (∀ k, tmps.getD k undef = ρ k) →
    ((ps.zip vs).foldl (fun t (p : Tmp × Value) => t.setIfInBounds p.1 p.2) tmps).size = N ∧ ∀ k, ((ps.zip vs).foldl (fun t (p : Tmp × Value) => t.setIfInBounds p.1 p.2) tmps).getD k undef = setP ρ ps vs k
  | [], vs, ρ, tmps, _, h1, h2 => ⟨h1, h2⟩
  | p :: ps, [], ρ, tmps, _, h1, h2 => ⟨h1, h2⟩
  | p :: ps, v :: vs, ρ, tmps, hp, h1, h2 => by
    have hlt := hp p List.mem_cons_self
    have := setP_fits ps vs (upd ρ p v) (tmps.setIfInBounds p v) (fun q hq => hp q (List.mem_cons_of_mem _ hq)) (by simp [h1]) (fun k => by
      simp only [upd]
      by_cases e : k = p
      · subst e; simp [h1, hlt, beq_self]
      · rw [beq_ne e, ← h2 k]
        simp [Array.getElem?_setIfInBounds_ne (Ne.symm e)])
    simpa [setP] using this

section
variable {α : Type} {P : Program} {N : Nat} {Q : QE} {ρ : Nat → Value} {ds : List Nat} {w : World} {s : Sy}
/-- the body's proof is a promise of yield -/
theorem YS.of {l : Nat} {ps : Array Tmp} {asg body : Code} {E : α → List Value → Hp} {xs : List α} {I : List α → Hp} {X : Code → List α → Hp} (hps : ∀ p ∈ ps.toList, p < N) (hE : ∀ x vs h, E x vs h → vs.length = ps.size)
    (hb : ∀ pre x rest vs w L' L2, xs = pre ++ x :: rest → (∀ w A', Hd s w (A' ++ L2) → ∃ rec, w.heap[l]? = some (.loop rec)) → Hd s w (I pre :: E x vs :: L') →
      WC P (some l) N asg (noE fun ρ1 ds1 w1 => (∃ A' : List Hp, Hd s w1 (A' ++ L')) ∧ ∀ w2, (∀ A' : List Hp, Hd s w1 (A' ++ L') → Hd s w2 (A' ++ L2)) → WC P (some l) N body (roundE s (I (pre ++ [x])) (fun c => X c (pre ++ [x])) L2) ρ1 ds1 w2) (setP ρ ps.toList vs) [] w) :
    YS P s l E xs (fun pre => star (LR N ρ ps asg body l .ready none) (I pre)) (fun pre => fun h => ∃ c, star (LR N ρ ps asg body l .done (some c)) (X c pre) h) := by
  intro pre x rest vs w L' hxs H
  -- the record
  have H1 : Hd s w (LR N ρ ps asg body l .ready none :: I pre :: E x vs :: L') := H.unstar
  obtain ⟨rec, ⟨hst, hpd, hpa, has, hbo, hsz, hfit⟩, H2⟩ := Hd.opn (q := fun rec => pt l (.loop rec)) H1 (fun x hx => hx)
  obtain ⟨rst, rpd, rfn, rtm, rpa, ras, rbo, rdf⟩ := rec
  simp only at hst hpd hpa has hbo hsz hfit
  subst hst hpd hpa has hbo
  have hl := H2.obj 0 rfl
  have hvs : vs.length = rpa.size := by
    obtain ⟨h, _, he⟩ := H1.fact_at 2 rfl
    exact hE x vs h he
  have hfold := setP_fits (N := N) rpa.toList vs ρ rtm hps hsz hfit
  refine ⟨rfn, (rpa.zip vs.toArray).foldl (fun tmps (t, a) => tmps.setIfInBounds t a) rtm, ras, rbo, run_yield hl (by simpa using hvs), ?_⟩
  refine roundIn_of_wpIn (F := Fe none) trivial ?_
  have htm : (rpa.zip vs.toArray).foldl (fun tmps (t, a) => tmps.setIfInBounds t a) rtm = (rpa.toList.zip vs).foldl (fun t (p : Tmp × Value) => t.setIfInBounds p.1 p.2) rtm := by
    rw [← Array.foldl_toList]; simp
  have hF : Fits N { tmps := (rpa.zip vs.toArray).foldl (fun tmps (t, a) => tmps.setIfInBounds t a) rtm, defers := [] } (setP ρ rpa.toList vs) [] := by
    rw [htm]; exact ⟨hfold.1, hfold.2, rfl⟩
  have H3 : Hd s w (I pre :: E x vs :: pt l (.loop ⟨.ready, none, rfn, rtm, rpa, ras, rbo, rdf⟩) :: L') := H2.arr_head3
  have hrec2 : ∀ (w : World) (A' : List Hp), Hd s w (A' ++ pt l (.loop ⟨.busy, none, rfn, rtm, rpa, ras, rbo, rdf⟩) :: L') → ∃ rec, w.heap[l]? = some (.loop rec) := fun w A' h => ⟨⟨.busy, none, rfn, rtm, rpa, ras, rbo, rdf⟩, h.obj A'.length (by simp)⟩
  have := hb pre x rest vs w (pt l (.loop ⟨.ready, none, rfn, rtm, rpa, ras, rbo, rdf⟩) :: L') (pt l (.loop ⟨.busy, none, rfn, rtm, rpa, ras, rbo, rdf⟩) :: L') hxs hrec2 H3 _ hF
  refine wpIn_mono this ?_
  rintro e a w1 ⟨ρ1, ds1, f1, q1⟩
  cases e with
  | normal =>
    simp only [noE] at q1
    obtain ⟨⟨A', hA⟩, q1⟩ := q1
    have hl1 : w1.heap[l]? = some (.loop ⟨.ready, none, rfn, rtm, rpa, ras, rbo, rdf⟩) := hA.obj A'.length (by simp)
    show ∃ w₂, _
    refine ⟨_, run_beginRound hl1 rfl, ?_⟩
    have := q1 (w1.putObj l (.loop ⟨.busy, none, rfn, rtm, rpa, ras, rbo, rdf⟩)) (fun A' h => by
      have h' := Hd.putObj (b := l) (o := .loop ⟨.ready, none, rfn, rtm, rpa, ras, rbo, rdf⟩) h A'.length (by simp) (.loop ⟨.busy, none, rfn, rtm, rpa, ras, rbo, rdf⟩)
      simpa using h') a f1
    refine wpIn_mono this ?_
    rintro e2 a2 w3 ⟨ρ2, ds2, f2, q2⟩
    have fin : ∀ (p : Hp) (j : Option Code), Hd s w3 (p :: pt l (.loop ⟨.busy, none, rfn, rtm, rpa, ras, rbo, rdf⟩) :: L') → ∃ v w', (Instr.endRound l j).run P w3 = .ok v w' ∧ v = .bool j.isNone ∧
        Hd s w' (p :: pt l (.loop ⟨if j.isNone then .ready else .done, j, rfn, rtm, rpa, ras, rbo, rdf⟩) :: L') := fun p j h =>
      ⟨_, _, run_endRound j (h.obj 1 rfl), rfl, h.putObj 1 rfl _⟩
    cases e2 with
    | normal =>
      obtain ⟨v, w', r1, r2, r3⟩ := fin _ none q2
      refine ⟨v, w', r1, v, rfl, .inl ⟨r2, ?_⟩⟩
      refine Hd.star (Hd.weak (r3.perm (List.Perm.swap _ _ _)) fun h hp => ⟨_, ⟨rfl, rfl, rfl, rfl, rfl, hsz, hfit⟩, hp⟩)
    | ret =>
      obtain ⟨v, w', r1, r2, r3⟩ := fin _ (some .ret) q2
      refine ⟨v, w', r1, v, rfl, .inr ⟨r2, ?_⟩⟩
      refine Hd.weak (Hd.star (Hd.weak (r3.perm (List.Perm.swap _ _ _)) fun h hp => (⟨_, ⟨rfl, rfl, rfl, rfl, rfl, hsz, hfit⟩, hp⟩ : LR N ρ rpa ras rbo l .done (some .ret) h))) fun h hh => ⟨.ret, hh⟩
    | exit id =>
      obtain ⟨v, w', r1, r2, r3⟩ := fin _ (some (.exit id)) q2
      refine ⟨v, w', r1, v, rfl, .inr ⟨r2, ?_⟩⟩
      refine Hd.weak (Hd.star (Hd.weak (r3.perm (List.Perm.swap _ _ _)) fun h hp => (⟨_, ⟨rfl, rfl, rfl, rfl, rfl, hsz, hfit⟩, hp⟩ : LR N ρ rpa ras rbo l .done (some (.exit id)) h))) fun h hh => ⟨.exit id, hh⟩
    | goto t =>
      obtain ⟨v, w', r1, r2, r3⟩ := fin _ (some (.goto t)) q2
      refine ⟨v, w', r1, v, rfl, .inr ⟨r2, ?_⟩⟩
      refine Hd.weak (Hd.star (Hd.weak (r3.perm (List.Perm.swap _ _ _)) fun h hp => (⟨_, ⟨rfl, rfl, rfl, rfl, rfl, hsz, hfit⟩, hp⟩ : LR N ρ rpa ras rbo l .done (some (.goto t)) h))) fun h hh => ⟨.goto t, hh⟩
    | panic c => exact q2
    | outgrown => exact q2
  | exit id => exact q1
  | goto t => exact q1
  | ret => exact q1
  | panic c => exact q1
  | outgrown => exact q1
/-- for .. := range g { body }, at the function's own level -/
theorem WC.rangeFn0 {g : Operand} {ps : Array Tmp} {asg body : Code} {f : FuncId} {caps : List Value} {E : α → List Value → Hp} {xs : List α} {A : Hp} {B : List α → Hp} {I : List α → Hp} {X : Code → List α → Hp} {L : List Hp}
    (hg : ev ρ g = .func (.func f) #[] caps.toArray) (hc : Cal P f) (hps : ∀ p ∈ ps.toList, p < N) (hE : ∀ x vs h, E x vs h → vs.length = ps.size) (hit : ∀ l, YS P s l E xs (fun pre => star (LR N ρ ps asg body l .ready none) (I pre)) (fun pre => fun h => ∃ c, star (LR N ρ ps asg body l .done (some c)) (X c pre) h) → ∀ w L, Hd s w (star (LR N ρ ps asg body l .ready none) (I []) :: A :: L) → CC P f (.func (.yield l) #[] #[] :: caps).toArray w fun _ w' =>
      Hd s w' (star (LR N ρ ps asg body l .ready none) (I xs) :: B xs :: L) ∨ ∃ pre x rest, xs = pre ++ x :: rest ∧ Hd s w' ((fun h => ∃ c, star (LR N ρ ps asg body l .done (some c)) (X c (pre ++ [x])) h) :: B (pre ++ [x]) :: L)) (H : Hd s w (I [] :: A :: L))
    (hb : ∀ l pre x rest vs w L' L2, xs = pre ++ x :: rest → (∀ w A', Hd s w (A' ++ L2) → ∃ rec, w.heap[l]? = some (.loop rec)) → Hd s w (I pre :: E x vs :: L') →
      WC P (some l) N asg (noE fun ρ1 ds1 w1 => (∃ A' : List Hp, Hd s w1 (A' ++ L')) ∧ ∀ w2, (∀ A' : List Hp, Hd s w1 (A' ++ L') → Hd s w2 (A' ++ L2)) → WC P (some l) N body (roundE s (I (pre ++ [x])) (fun c => X c (pre ++ [x])) L2) ρ1 ds1 w2) (setP ρ ps.toList vs) [] w)
    (hdone : ∀ w m, Hd s w (I xs :: B xs :: pt m (.deferred (some [])) :: L) → Q .normal ρ (m :: ds) w)
    (hstop : ∀ w m c pre x rest, xs = pre ++ x :: rest → Hd s w (X c (pre ++ [x]) :: B (pre ++ [x]) :: pt m (.deferred (some [])) :: L) → WC P none N c Q ρ (m :: ds) w) :
    WC P none N (.rangeFunc g ps asg body) Q ρ ds w := fun a ha => by
  refine wpIn_rangeFunc fun fn _ => ?_
  have H1 := H.alloc (.deferred (some []))
  have H2 := H1.alloc (.loop { state := .ready, pending := none, fn, tmps := a.tmps, params := ps, assign := asg, body, defers := w.heap.size })
  simp only [World.size_alloc] at H2
  have hres : (resolve a.eval (rangeCall g (w.heap.size + 1)) 0).run P ((w.alloc (.deferred (some []))).alloc (.loop { state := .ready, pending := none, fn, tmps := a.tmps, params := ps, assign := asg, body, defers := w.heap.size })) =
      .ok { target := .fn (.func f) caps.toArray, args := #[.func (.yield (w.heap.size + 1)) #[] #[]] } ((w.alloc (.deferred (some []))).alloc (.loop { state := .ready, pending := none, fn, tmps := a.tmps, params := ps, assign := asg, body, defers := w.heap.size })) := by
    simp only [resolve, rangeCall, ha.eval, hg, Deferred.ofValue]
    have e1 : (#[] : Array Value) ++ Array.map (ev ρ) #[Operand.const (Value.func (Fn.yield (w.heap.size + 1)) #[] #[])] = #[.func (.yield (w.heap.size + 1)) #[] #[]] := by simp [ev]
    rw [e1]; rfl
  have hen := run_enterLoop_outer (P := P) (w := w) fn a.tmps ps asg body
  generalize (w.alloc (.deferred (some []))).alloc (.loop { state := .ready, pending := none, fn, tmps := a.tmps, params := ps, assign := asg, body, defers := w.heap.size }) = W at hres H2 hen
  refine ⟨w.heap.size + 1, [mk w.heap.size], W, _, W, f, (.func (.yield (w.heap.size + 1)) #[] #[] :: caps).toArray, W, hen, hres, fun _ _ => trivial, ?_, by simp [Fe], ?_⟩
  · simp only [invoke]
    rw [run_callFunc hc]
    simp
  · have hys := YS.of (l := w.heap.size + 1) (ps := ps) (asg := asg) (body := body) (E := E) (xs := xs) (I := I) (X := X) (ρ := ρ) (N := N) (P := P) (s := s) hps hE (hb (w.heap.size + 1))
    have H3 : Hd s _ (star (LR N ρ ps asg body (w.heap.size + 1) .ready none) (I []) :: A :: pt w.heap.size (.deferred (some [])) :: L) :=
      Hd.star (Hd.weak (H2.arr_tail3) fun h hp => ⟨_, ⟨rfl, rfl, rfl, rfl, rfl, ha.1, ha.2.1⟩, hp⟩)
    refine CallsIn.mono (hit _ hys _ _ H3) ?_
    rintro e w3 ⟨v, rfl, hor⟩
    have hfit : Fits N { a with defers := [mk w.heap.size] ++ a.defers } ρ (w.heap.size :: ds) := ⟨ha.1, ha.2.1, by simp [ha.2.2]⟩
    rcases hor with h | ⟨pre, x, rest, hx, h⟩
    · obtain ⟨rec, ⟨hst, hpd, _⟩, h2⟩ := Hd.opn (q := fun rec => pt (w.heap.size + 1) (.loop rec)) (Hd.unstar h) (fun x hx => hx)
      refine ⟨rec.pending, _, run_endLoop (h2.obj 0 rfl) (by rw [hst]; simp), ?_⟩
      rw [hpd]
      exact ⟨ρ, _, hfit, hdone _ _ (h2.putObj 0 rfl _).drop⟩
    · obtain ⟨c, h⟩ := Hd.unex h
      obtain ⟨rec, ⟨hst, hpd, _⟩, h2⟩ := Hd.opn (q := fun rec => pt (w.heap.size + 1) (.loop rec)) (Hd.unstar h) (fun x hx => hx)
      refine ⟨rec.pending, _, run_endLoop (h2.obj 0 rfl) (by rw [hst]; simp), ?_⟩
      rw [hpd]
      exact hstop _ _ c pre x rest hx (h2.putObj 0 rfl _).drop _ hfit

theorem WC.rangeFn {g : Operand} {ps : Array Tmp} {asg body : Code} {f : FuncId} {caps : List Value} {E : α → List Value → Hp} {xs : List α} {A : Hp} {B : List α → Hp} {I : List α → Hp} {X : Code → List α → Hp} {L : List Hp}
    (hg : ev ρ g = .func (.func f) #[] caps.toArray) (hc : Cal P f) (hps : ∀ p ∈ ps.toList, p < N) (hE : ∀ x vs h, E x vs h → vs.length = ps.size) (hit : IT P s f caps E xs A B) (H : Hd s w (I [] :: A :: L))
    (hb : ∀ l pre x rest vs w L' L2, xs = pre ++ x :: rest → (∀ w A', Hd s w (A' ++ L2) → ∃ rec, w.heap[l]? = some (.loop rec)) → Hd s w (I pre :: E x vs :: L') →
      WC P (some l) N asg (noE fun ρ1 ds1 w1 => (∃ A' : List Hp, Hd s w1 (A' ++ L')) ∧ ∀ w2, (∀ A' : List Hp, Hd s w1 (A' ++ L') → Hd s w2 (A' ++ L2)) → WC P (some l) N body (roundE s (I (pre ++ [x])) (fun c => X c (pre ++ [x])) L2) ρ1 ds1 w2) (setP ρ ps.toList vs) [] w)
    (hdone : ∀ w m, Hd s w (I xs :: B xs :: pt m (.deferred (some [])) :: L) → Q .normal ρ (m :: ds) w)
    (hstop : ∀ w m c pre x rest, xs = pre ++ x :: rest → Hd s w (X c (pre ++ [x]) :: B (pre ++ [x]) :: pt m (.deferred (some [])) :: L) → WC P none N c Q ρ (m :: ds) w) :
    WC P none N (.rangeFunc g ps asg body) Q ρ ds w := WC.rangeFn0 hg hc hps hE (fun l hy w L h => hit l _ _ w L hy h) H hb hdone hstop
theorem star_in {A Z I : Hp} : star A (star Z I) = star Z (star A I) := funext fun h => propext ⟨star_swap, star_swap⟩
theorem star_inE {Z : Hp} {A X : Code → Hp} : (fun h => ∃ c, star (A c) (star Z (X c)) h) = star Z (fun h => ∃ c, star (A c) (X c) h) := funext fun h => propext ⟨fun ⟨c, k⟩ => star_mono (star_swap k) (fun _ h => h) (fun _ k => ⟨c, k⟩), fun ⟨a, b, h1, h2, h3, c, h4⟩ => ⟨c, star_swap ⟨a, b, h1, h2, h3, h4⟩⟩⟩
/-- an iterator that shares Z with the body -/
def ITz {α : Type} (P : Program) (s : Sy) (f : FuncId) (caps : List Value) (E : α → List Value → Hp) (xs : List α) (Z A : Hp) (B : List α → Hp) : Prop :=
  ∀ (l : Nat) (J X : List α → Hp) (w : World) (L : List Hp), YS P s l E xs (fun pre => star Z (J pre)) (fun pre => star Z (X pre)) → Hd s w (star Z (J []) :: A :: L) → CC P f (.func (.yield l) #[] #[] :: caps).toArray w fun _ w' =>
    Hd s w' (star Z (J xs) :: B xs :: L) ∨ ∃ pre x rest, xs = pre ++ x :: rest ∧ Hd s w' (star Z (X (pre ++ [x])) :: B (pre ++ [x]) :: L)
theorem WC.rangeFnZ {g : Operand} {ps : Array Tmp} {asg body : Code} {f : FuncId} {caps : List Value} {E : α → List Value → Hp} {xs : List α} {A : Hp} {B : List α → Hp} {I : List α → Hp} {X : Code → List α → Hp} {L : List Hp} {Z : Hp}
    (hg : ev ρ g = .func (.func f) #[] caps.toArray) (hc : Cal P f) (hps : ∀ p ∈ ps.toList, p < N) (hE : ∀ x vs h, E x vs h → vs.length = ps.size) (hit : ITz P s f caps E xs Z A B) (H : Hd s w (star Z (I []) :: A :: L))
    (hb : ∀ l pre x rest vs w L' L2, xs = pre ++ x :: rest → (∀ w A', Hd s w (A' ++ L2) → ∃ rec, w.heap[l]? = some (.loop rec)) → Hd s w (star Z (I pre) :: E x vs :: L') →
      WC P (some l) N asg (noE fun ρ1 ds1 w1 => (∃ A' : List Hp, Hd s w1 (A' ++ L')) ∧ ∀ w2, (∀ A' : List Hp, Hd s w1 (A' ++ L') → Hd s w2 (A' ++ L2)) → WC P (some l) N body (roundE s (star Z (I (pre ++ [x]))) (fun c => star Z (X c (pre ++ [x]))) L2) ρ1 ds1 w2) (setP ρ ps.toList vs) [] w)
    (hdone : ∀ w m, Hd s w (star Z (I xs) :: B xs :: pt m (.deferred (some [])) :: L) → Q .normal ρ (m :: ds) w)
    (hstop : ∀ w m c pre x rest, xs = pre ++ x :: rest → Hd s w (star Z (X c (pre ++ [x])) :: B (pre ++ [x]) :: pt m (.deferred (some [])) :: L) → WC P none N c Q ρ (m :: ds) w) :
    WC P none N (.rangeFunc g ps asg body) Q ρ ds w := WC.rangeFn0 (I := fun pre => star Z (I pre)) (X := fun c pre => star Z (X c pre)) hg hc hps hE (fun l hy w L h => by
      have := hit l (fun pre => star (LR N ρ ps asg body l .ready none) (I pre)) (fun pre => fun h => ∃ c, star (LR N ρ ps asg body l .done (some c)) (X c pre) h) w L
      have eI : ∀ pre, star (LR N ρ ps asg body l .ready none) (star Z (I pre)) = star Z (star (LR N ρ ps asg body l .ready none) (I pre)) := fun _ => star_in
      have eX : ∀ pre, (fun h => ∃ c, star (LR N ρ ps asg body l .done (some c)) (star Z (X c pre)) h) = star Z (fun h => ∃ c, star (LR N ρ ps asg body l .done (some c)) (X c pre) h) := fun _ => star_inE
      refine CC.mono (this ((congr (congrArg (YS P s l E xs) (funext eI)) (funext eX)).mp hy) (by rw [← eI]; exact h)) fun v w' k => ?_
      rcases k with k | ⟨pre, x, rest, hx, k⟩
      · left; rw [eI]; exact k
      · right; refine ⟨pre, x, rest, hx, ?_⟩; rw [eX]; exact k) H hb hdone hstop
end
end KE
