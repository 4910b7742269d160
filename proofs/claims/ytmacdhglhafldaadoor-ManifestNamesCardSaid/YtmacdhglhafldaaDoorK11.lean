/- Part of a proof: GpA28, GpA29, GpA30, GpA31, GpA32 -/
import Derived.Test.YtmacdhglhafldaaDoorK10

/- Loops over iterators: the statement. -/
namespace Go.Gp
open Go.RowKit
set_option linter.unusedVariables false
set_option linter.unusedSimpArgs false

/-- The record of a loop over an iterator. -/
def lobj (fn : FuncId) (tmps : Array Value) (ps : Array Tmp) (assign body : Code) (r : Nat) (t : Slots) (st : LoopState) (pend : Option Code) : AObj :=
  .loop { state := st, pending := pend, fn, tmps, params := ps, assign, body, defers := r } t

/-- What comes behind the statement. -/
def pendK (K : Kont) (t : Slots) (H : List AObj) : Option Code → Prop
  | none => K .normal t H
  | some .ret => K .ret t H
  | some (.exit i) => K (.exit i) t H
  | _ => False

section rules
variable {E : Env} {n : Nat} {K : Kont} {t : Slots} {H : List AObj}

theorem WpA.rangeF {g : Operand} {ps : Array Tmp} {assign body : Code} {q : Nat} {caps : List AV} {fn : Func} {code : Code}
    (hg : evalA E.G t g = .func q caps) (hf : E.P.funcs[q]? = some fn) (hb : fn.body = some code) (hnm : (fn.name == "runtime.NumGoroutine") = false)
    (hc : ∀ fn tmps r, tmps.size = n → CallsA E q ([.yld H.length 0] ++ caps) (H ++ [lobj fn tmps ps assign body r t .ready none]) (fun e H' =>
      (∃ v, e = .ret v) ∧ ∃ st pend, H'[H.length]? = some (lobj fn tmps ps assign body r t st pend) ∧ st ≠ .busy ∧ pendK K t (H'.set H.length (lobj fn tmps ps assign body r t .exhausted pend)) pend)) (hmk : E.marks = true := by rfl) :
    WpA E none n (.rangeFunc g ps assign body) K t H := by
  refine ⟨?_⟩
  intro cd c0 c a e1 e2 e3 e4 e5
  subst e2
  refine wpIn_rangeFunc fun fn' _ => ?_
  -- the marks' block, the record
  let c1 := c.push (.deferred (some []))
  let rec1 : Loop := { state := .ready, pending := none, fn := fn', tmps := a.tmps, params := ps, assign, body, defers := c.w.heap.size }
  let c2 := c1.newObj (.loop rec1 t) (.loop rec1)
  have x1 : Ext c c1 := Ext.push c _ e3.hr
  have r1 : HR c1 := e3.hr.push _
  have x2 : Ext c1 c2 := Ext.newObj c1 _ _ r1
  have hsz1 : c1.w.heap.size = c.w.heap.size + 1 := heap_alloc_size _ _
  have r2 : HR c2 := HR.newObj r1 ⟨heap_alloc_eq _ _, fun i => ((e4.rel i).mono x1.toExt0).mono x2.toExt0⟩
  have o2 : Ok E.G c2 := e3.step (x1.trans x2) r2
  have hι2 : c2.ι c.H.length = some c1.w.heap.size := (newObj_ι r1).2 (.inr ⟨rfl, rfl⟩)
  have hH2 : c2.H = c.H ++ [.loop rec1 t] := rfl
  have hget2 : c2.H[c.H.length]? = some (.loop rec1 t) := by rw [hH2]; simp
  have hgr := eval_rel e3 e4 g
  rw [hg] at hgr
  generalize hgv : a.eval g = gv at hgr
  cases hgr with
  | func ws hl hr =>
    have hyr : RelL c2 ([.yld c.H.length 0] ++ caps) ([Value.func (.yield c1.w.heap.size) #[] #[]] ++ ws) := by
      refine RelL.append (RelL.cons (.yld ⟨_, hget2, rfl, hι2⟩) (RelL.nil _)) ⟨hl, fun i x v h1 h2 => ((hr i x v h1 h2).mono x1.toExt0).mono x2.toExt0⟩
    have hcall := (hc fn' a.tmps c.w.heap.size e4.size).out c2 _ hH2 o2 hyr
    rw [run_callFunc_body hf hb hnm] at hcall
    have hcall' : Calls E.P q ([Value.func (.yield c1.w.heap.size) #[] #[]] ++ ws).toArray c2.w _ := hcall
    refine ⟨c1.w.heap.size, [{ target := .collected c.w.heap.size, args := #[] }], c2.w, { target := .fn (.func q) ws.toArray, args := #[.func (.yield c1.w.heap.size) #[] #[]] }, c2.w, q, ([Value.func (.yield c1.w.heap.size) #[] #[]] ++ ws).toArray, c2.w, ?_, ?_, fun f' _ => Fc_fn none f', ?_, fun h => (by rw [Fc_depth] at h; simp at h), ?_⟩
    · rw [Fc_round]
      simp only [Instr.enterLoop, newObj, Sem.run_bind, Sem.run_pure, Sem.run, Result.andThen]
      rfl
    · have : (rangeCall g c1.w.heap.size).args = #[.const (.func (.yield c1.w.heap.size) #[] #[])] := rfl
      have hev : a.eval (.const (.func (.yield c1.w.heap.size) #[] #[])) = .func (.yield c1.w.heap.size) #[] #[] := rfl
      simp [resolve, rangeCall, hgv, Deferred.ofValue, hev]
    · have := run_callFunc_body (P := E.P) (vs := ([Value.func (.yield c1.w.heap.size) #[] #[]] ++ ws).toArray) (w := c2.w) hf hb hnm
      simpa [invoke] using this
    · rw [Fc_calls]
      refine hcall'.mono ?_
      rintro e w3 ⟨ι3, H3, x3, y1, y2, y3, ⟨v0, hv0⟩, st, pend, y4, y5, y6⟩
      subst hv0
      cases e with
      | panicked chain => exact y3.elim
      | outgrown => exact y3.elim
      | returned v =>
        have hι3 : ι3 c.H.length = some c1.w.heap.size := by
          have h9 : boxAt c2 c.H.length c1.w.heap.size := ⟨_, hget2, rfl, hι2⟩
          exact (y1.bx _ _ h9).choose_spec.2.2
        obtain ⟨h3, h4⟩ := y2.hr.obj _ _ _ y4 hι3 rfl
        obtain ⟨u1, u2⟩ := loop_upd (c := ⟨ι3, H3, w3⟩) (r' := { state := .exhausted, pending := pend, fn := fn', tmps := a.tmps, params := ps, assign := assign, body := body, defers := c.w.heap.size }) y2.hr y4 hι3 rfl
        have hst : (st == LoopState.busy) = false := by cases st <;> first | rfl | exact absurd rfl y5
        have hend : (Instr.endLoop c1.w.heap.size).run E.P w3 = .ok pend { w3 with heap := w3.heap.setIfInBounds c1.w.heap.size (.loop { state := .exhausted, pending := pend, fn := fn', tmps := a.tmps, params := ps, assign := assign, body := body, defers := c.w.heap.size }) } := by
          have h3' : w3.heap[c1.w.heap.size]? = some (.loop { state := st, pending := pend, fn := fn', tmps := a.tmps, params := ps, assign := assign, body := body, defers := c.w.heap.size }) := h3
          simp only [Instr.endLoop, Sem.run_bind]
          rw [run_getLoop h3']
          simp [setObj, Sem.run, Result.andThen, hst, Sem.run_bind, h3']
        refine ⟨pend, _, hend, ?_⟩
        have X : Ext c (Cfg.upd ⟨ι3, H3, w3⟩ c.H.length (lobj fn' a.tmps ps assign body c.w.heap.size t .exhausted pend) { w3 with heap := w3.heap.setIfInBounds c1.w.heap.size (.loop { state := .exhausted, pending := pend, fn := fn', tmps := a.tmps, params := ps, assign := assign, body := body, defers := c.w.heap.size }) }) := (x1.trans x2).trans (y1.trans u1)
        have O := e3.step X u2
        have S : SR (Cfg.upd ⟨ι3, H3, w3⟩ c.H.length (lobj fn' a.tmps ps assign body c.w.heap.size t .exhausted pend) { w3 with heap := w3.heap.setIfInBounds c1.w.heap.size (.loop { state := .exhausted, pending := pend, fn := fn', tmps := a.tmps, params := ps, assign := assign, body := body, defers := c.w.heap.size }) }) n t { tmps := a.tmps, defers := [{ target := .collected c.w.heap.size, args := #[] }] ++ a.defers } := ⟨e4.size, fun i => (e4.rel i).mono X.toExt0⟩
        have D2 : DefOk (cd, E.marks) c2 { tmps := a.tmps, defers := [{ target := .collected c.w.heap.size, args := #[] }] ++ a.defers } := by
          obtain ⟨D, d1, df, d2, ds, d3⟩ := e5.mono (x1.trans x2) rfl (a' := a)
          refine ⟨c.w.heap.size :: D, by simp [marksOf, d1], fun h => absurd (hmk.symm.trans h) (by decide), List.nodup_cons.2 ⟨fun hm => ?_, d2⟩, ds, fun b hbm => ?_⟩
          · obtain ⟨D', d1', _, d2', _, d3'⟩ := e5
            have hDD : D = D' := by
              have h9 : marksOf D = marksOf D' := List.append_cancel_right (d1.symm.trans d1')
              have : ∀ (A B : List Nat), marksOf A = marksOf B → A = B := by
                intro A
                induction A with
                | nil => intro B hB; cases B <;> simp [marksOf] at hB ⊢
                | cons x A ih =>
                  intro B hB
                  cases B with
                  | nil => simp [marksOf] at hB
                  | cons y B =>
                    simp only [marksOf, List.map_cons, List.cons.injEq, Deferred.mk.injEq, Target.collected.injEq, and_true] at hB
                    rw [hB.1, ih B hB.2]
              exact this _ _ h9
            subst hDD
            have := block_lt (d3' _ hm).1
            omega
          · rcases List.mem_cons.1 hbm with rfl | hbm
            · refine ⟨?_, ?_, fun id o ho hl hi => ?_⟩
              · have h1 : c1.w.heap[c.w.heap.size]? = some (.deferred (some [])) := heap_alloc_eq _ _
                exact (heap_alloc_lt c1.w _ (by omega)).trans h1
              · obtain ⟨D', d1', _, d2', ds', d3'⟩ := e5
                exact ds'
              · rcases newObj_get.1 ho with ho | ⟨rfl, _⟩
                · rcases (newObj_ι r1).1 hi with hi | ⟨_, hi⟩
                  · have := e3.hr.bound id _ hi
                    omega
                  · omega
                · rcases (newObj_ι r1).1 hi with hi | ⟨_, hi⟩
                  · have := e3.hr.bound _ _ hi
                    omega
                  · omega
            · exact d3 b hbm
        have D : DefOk (cd, E.marks) _ { tmps := a.tmps, defers := [{ target := .collected c.w.heap.size, args := #[] }] ++ a.defers } := D2.mono (y1.trans u1) rfl
        cases pend with
        | none => exact Post.mk .normal (e1.trans X) O S D trivial y6
        | some cc =>
          cases cc <;> try exact y6.elim
          · exact wpIn_exit (Post.mk (.exit _) (e1.trans X) O S D rfl y6)
          · exact wpIn_ret (Post.mk .ret (e1.trans X) O S D trivial y6)
end rules

/-! ### Iterators over items -/
/-- The items, one by one, until the answer is no. -/
def runIt {σ ι : Type} (f : σ → ι → Bool × σ) : σ → List ι → σ
  | s, [] => s
  | s, x :: xs => bif (f s x).1 then runIt f (f s x).2 xs else (f s x).2

/-- Whether all were wanted. -/
def allIt {σ ι : Type} (f : σ → ι → Bool × σ) : σ → List ι → Bool
  | s, [] => true
  | s, x :: xs => bif (f s x).1 then allIt f (f s x).2 xs else false

structure Ylds (E : Env) (y : AV) {σ : Type} (Hf : σ → List AObj) (f : σ → List AV → Bool × σ) (ok : σ → Prop) (items : List (List AV)) : Prop where
  app : ∀ s x X, ok s → x ∈ items → AppA E y x (Hf s ++ X) (fun e H' => e = .ret (.bool (f s x).1) ∧ H' = Hf (f s x).2 ++ X)
  next : ∀ s x, ok s → x ∈ items → (f s x).1 = true → ok (f s x).2
  len : ∀ s s', (Hf s).length = (Hf s').length
  tr : ∀ s s' X, TrOk (Hf s ++ X) (Hf s' ++ X)

/-- Items of any kind: what is handed on for one, what of memory is told with it. -/
structure YldsG (E : Env) (y : AV) {σ ι : Type} (args : ι → List AV) (pr : ι → List AObj → Prop) (Hf : σ → List AObj) (f : σ → ι → Bool × σ) (ok : σ → Prop) (P : ι → Prop) : Prop where
  app : ∀ s x X, ok s → P x → pr x (Hf s ++ X) → AppA E y (args x) (Hf s ++ X) (fun e H' => e = .ret (.bool (f s x).1) ∧ H' = Hf (f s x).2 ++ X)
  next : ∀ s x, ok s → P x → (f s x).1 = true → ok (f s x).2
  len : ∀ s s', (Hf s).length = (Hf s').length
  tr : ∀ s s' X, TrOk (Hf s ++ X) (Hf s' ++ X)
def IterG (E : Env) (g : Nat) (caps : List AV) (pre : List AObj → Prop) (al : Bool) {ι : Type} (args : ι → List AV) (pr : ι → List AObj → Prop) (P : ι → Prop) (Q : List ι → Prop) : Prop :=
  ∀ (yn yj : Nat) (σ : Type) (Hf : σ → List AObj) (f : σ → ι → Bool × σ) (ok : σ → Prop), YldsG E (.yld yn yj) args pr Hf f ok P → (∀ s X, pre (Hf s ++ X)) → (al = true → ∀ s x, ok s → P x → (f s x).1 = true) → ∀ s X, ok s →
    CallsA E g ([.yld yn yj] ++ caps) (Hf s ++ X) (fun e H' => e = .ret (.tup []) ∧ ∃ its, Q its ∧ H' = Hf (runIt f s its) ++ X)

/-- The function value, called with a yield, yields these items. -/
def IterA (E : Env) (g : Nat) (caps : List AV) (pre : List AObj → Prop) (items : List (List AV)) : Prop :=
  ∀ (yn yj : Nat) (σ : Type) (Hf : σ → List AObj) (f : σ → List AV → Bool × σ) (ok : σ → Prop), Ylds E (.yld yn yj) Hf f ok items → (∀ s X, pre (Hf s ++ X)) → ∀ s X, ok s →
    CallsA E g ([.yld yn yj] ++ caps) (Hf s ++ X) (fun e H' => e = .ret (.tup []) ∧ H' = Hf (runIt f s items) ++ X)

/-- The function value, called with a yield, yields the items of one of the lists of 'P'. -/
def IterP (E : Env) (g : Nat) (caps : List AV) (pre : List AObj → Prop) (all : List (List AV)) (P : List (List AV) → Prop) : Prop :=
  ∀ (yn yj : Nat) (σ : Type) (Hf : σ → List AObj) (f : σ → List AV → Bool × σ) (ok : σ → Prop), Ylds E (.yld yn yj) Hf f ok all → (∀ s X, pre (Hf s ++ X)) → ∀ s X, ok s →
    CallsA E g ([.yld yn yj] ++ caps) (Hf s ++ X) (fun e H' => e = .ret (.tup []) ∧ ∃ items, P items ∧ H' = Hf (runIt f s items) ++ X)

theorem Ylds.sub {E : Env} {y : AV} {σ : Type} {Hf : σ → List AObj} {f : σ → List AV → Bool × σ} {ok : σ → Prop} {items items' : List (List AV)} (h : Ylds E y Hf f ok items) (hs : ∀ x ∈ items', x ∈ items) : Ylds E y Hf f ok items' :=
  ⟨fun s x X h1 h2 => h.app s x X h1 (hs x h2), fun s x h1 h2 => h.next s x h1 (hs x h2), h.len, h.tr⟩

theorem runIt_ok {E : Env} {y : AV} {σ : Type} {Hf : σ → List AObj} {f : σ → List AV → Bool × σ} {ok : σ → Prop} : ∀ {items : List (List AV)} {s : σ}, Ylds E y Hf f ok items → ok s → allIt f s items = true → ok (runIt f s items)
  | [], s, _, h, _ => h
  | x :: xs, s, hy, h, ha => by
    unfold runIt allIt at *
    cases hf : (f s x).1 with
    | false => rw [hf] at ha; simp at ha
    | true =>
      rw [hf] at ha
      exact runIt_ok (hy.sub fun z hz => List.mem_cons_of_mem _ hz) (hy.next s x h List.mem_cons_self hf) ha

theorem runIt_append {σ ι : Type} (f : σ → ι → Bool × σ) : ∀ (xs ys : List ι) (s : σ), runIt f s (xs ++ ys) = bif allIt f s xs then runIt f (runIt f s xs) ys else runIt f s xs
  | [], ys, s => rfl
  | x :: xs, ys, s => by
    simp only [List.cons_append, runIt, allIt]
    cases hf : (f s x).1 with
    | false => rfl
    | true => exact runIt_append f xs ys _
theorem allIt_append {σ ι : Type} (f : σ → ι → Bool × σ) : ∀ (xs ys : List ι) (s : σ), allIt f s (xs ++ ys) = (allIt f s xs && allIt f (runIt f s xs) ys)
  | [], ys, s => rfl
  | x :: xs, ys, s => by
    simp only [List.cons_append, runIt, allIt]
    cases hf : (f s x).1 with
    | false => rfl
    | true => exact allIt_append f xs ys _

section ranges
variable {E : Env} {n : Nat} {K : Kont} {t : Slots}

/-- What a round of such a loop ends with: a state, and a jump or none. -/
def rndK {σ : Type} (Hf : σ → List AObj) (rec : LoopState → Option Code → AObj) (X : List AObj) (out : σ × Option Code) : Kont := fun x t2 H2 =>
  ∃ L, H2 = (Hf out.1 ++ (rec .busy none :: X)) ++ L ∧
    (match x with
      | .normal => out.2 = none
      | .ret => out.2 = some .ret
      | .exit i => out.2 = some (.exit i)
      | .panic _ => False)

/-- A loop over items: 'step' says what a round makes of the state, and how it leaves. -/
def runStep {σ ι : Type} (step : σ → ι → σ × Option Code) : σ → List ι → σ × Option Code
  | s, [] => (s, none)
  | s, x :: xs => match step s x with
    | (s', none) => runStep step s' xs
    | (s', some j) => (s', some j)

theorem WpA.rangeG {σ ι : Type} {g : Operand} {pl : List Tmp} {assign body : Code} {q : Nat} {caps : List AV} {fn : Func} {code : Code} {args : ι → List AV} {pr : ι → List AObj → Prop} {P : ι → Prop} {Q : List ι → Prop} (Hf : σ → List AObj) (step : σ → ι → σ × Option Code) (ok : σ → Prop) (s0 : σ) {N : Nat}
    (hg : evalA E.G t g = .func q caps) (hf : E.P.funcs[q]? = some fn) (hb : fn.body = some code) (hnm : (fn.name == "runtime.NumGoroutine") = false)
    {pre : List AObj → Prop} {al : Bool} (hI : IterG E q caps pre al args pr P Q) (hpre : ∀ s X, pre (Hf s ++ X)) (h0 : ok s0) (hN : ∀ s, (Hf s).length = N)
    (htr' : ∀ s s', ∀ (i : Nat) o, (Hf s')[i]? = some o → (Hf s)[i]? = some o ∨ OBd N o) (hts : BdS N t)
    (hpl : ∀ x, P x → pl.length = (args x).length) (hpn : ∀ p ∈ pl, p < n)
    (hnx : ∀ s x, ok s → P x → (step s x).2 = none → ok (step s x).1)
    (hr : ∀ (rec : LoopState → Option Code → AObj) l s x X, (∀ st p cs, rec st p ≠ .cells cs) → ok s → P x → ∀ B B' : List AObj, B = Hf s ++ (rec .ready none :: X) → B' = Hf s ++ (rec .busy none :: X) → B.length = B'.length → pr x B →
      WpA E (some l) n assign (fun x1 t1 H1 => x1 = .normal ∧ ∃ La, H1 = B ++ La ∧ WpA E (some l) n body (rndK Hf rec X (step s x)) t1 (B' ++ La)) (putPs pl (args x) t) (B ++ []))
    (hk : ∀ (rec : LoopState → Option Code → AObj) its, Q its → pendK K t (Hf (runStep step s0 its).1 ++ [rec .exhausted (runStep step s0 its).2]) (runStep step s0 its).2) (hal : al = true → ∀ s x, ok s → P x → (step s x).2 = none) (hmk : E.marks = true := by rfl) :
    WpA E none n (.rangeFunc g pl.toArray assign body) K t (Hf s0) := by
  refine WpA.rangeF hg hf hb hnm (fun fn' tmps r hn => ?_) hmk
  let rec' := lobj fn' tmps pl.toArray assign body r t
  let st : Option Code → LoopState := fun j => if j.isNone then .ready else .done
  let Hg : σ × Option Code → List AObj := fun p => Hf p.1 ++ [rec' (st p.2) p.2]
  let f : σ × Option Code → ι → Bool × (σ × Option Code) := fun p x => ((step p.1 x).2.isNone, step p.1 x)
  have hrl : ∀ stt pend, OBd N (rec' stt pend) := fun stt pend => ⟨fun cs e => (by cases e), fun es k e => (by cases e), fun r' t' e k => (by injection e with _ e; subst e; exact hts.look k), fun _ _ _ _ _ e => (by cases e)⟩
  have hle : ∀ {a b : Nat} {o : AObj}, a ≤ b → OBd a o → OBd b o := fun hab ho => ⟨fun cs e a ha => (ho.1 cs e a ha).le hab, fun es k e x hx => ⟨(ho.2.1 es k e x hx).1.le hab, (ho.2.1 es k e x hx).2.le hab⟩, fun r t e i => (ho.2.2.1 r t e i).le hab, fun m j a s q e => Nat.lt_of_lt_of_le (ho.2.2.2 m j a s q e) hab⟩
  have hy : YldsG E (.yld (Hf s0).length 0) args pr Hg f (fun p => ok p.1 ∧ p.2 = none) P := by
    refine ⟨?_, ?_, ?_, ?_⟩
    · rintro ⟨s, pd⟩ x X ⟨hs, rfl⟩ hx hpr
      have hidx : (Hf s0).length + 0 = (Hf s).length := by rw [hN, hN]; rfl
      refine AppA.round (r := { state := .ready, pending := none, fn := fn', tmps := tmps, params := pl.toArray, assign := assign, body := body, defers := r }) (ts := t) (n := n) pl ?_ rfl hn rfl (hpl x hx) hpn fun l => ?_
      · show (Hf s ++ [rec' .ready none] ++ X)[(Hf s0).length + 0]? = _
        rw [hidx, List.append_assoc, List.getElem?_append_right (Nat.le_refl _), Nat.sub_self]
        rfl
      · have he : Hg (s, none) ++ X = Hf s ++ (rec' .ready none :: X) := by show Hf s ++ [rec' .ready none] ++ X = _; rw [List.append_assoc]; rfl
        have := hr rec' l s x X (fun _ _ _ e => by cases e) hs hx _ _ rfl rfl (by simp) (by rw [← he]; exact hpr)
        rw [he]
        rw [List.append_nil] at this
        refine this.mono ?_
        rintro x1 t1 H1 ⟨rfl, La, rfl, hw⟩
        have hset : ∀ (s1 : σ) (o o' : AObj), (Hf s1 ++ (o :: X)).set ((Hf s0).length + 0) o' = Hf s1 ++ (o' :: X) := fun s1 o o' => by
          rw [show (Hf s0).length + 0 = (Hf s1).length from by rw [hN, hN]; rfl, List.set_append_right _ _ (Nat.le_refl _), Nat.sub_self]
          rfl
        have hget : ∀ (s1 : σ) (o : AObj), (Hf s1 ++ (o :: X))[(Hf s0).length + 0]? = some o := fun s1 o => by
          rw [show (Hf s0).length + 0 = (Hf s1).length from by rw [hN, hN]; rfl, List.getElem?_append_right (Nat.le_refl _), Nat.sub_self]
          rfl
        have hlt : (Hf s0).length + 0 < (Hf s ++ (rec' .ready none :: X)).length := by simp [hN]
        refine ⟨rfl, by rw [List.getElem?_append_left hlt]; exact hget s _, ?_⟩
        rw [List.set_append_left _ _ hlt, hset]
        refine hw.mono ?_
        rintro x2 t2 H2 ⟨L, rfl, hx2⟩
        have hkeep : ∀ (i : Nat) o, i ≠ (Hf s0).length + 0 → (Hf (step s x).1 ++ (rec' .busy none :: X))[i]? = some o → (Hf s ++ (rec' .ready none :: X))[i]? = some o ∨ OBd (Hf s ++ (rec' .ready none :: X)).length o := by
          intro i o hne hi
          rcases Nat.lt_or_ge i N with hlt | hge
          · rw [List.getElem?_append_left (by rw [hN]; exact hlt)] at hi
            rcases htr' s _ i o hi with h1 | h1
            · exact .inl (by rw [List.getElem?_append_left (by rw [hN]; exact hlt)]; exact h1)
            · exact .inr (hle (by simp [hN]) h1)
          · rw [List.getElem?_append_right (by rw [hN]; exact hge), hN] at hi
            refine .inl ?_
            rw [List.getElem?_append_right (by rw [hN]; exact hge), hN]
            obtain ⟨d, hd⟩ : ∃ d, i - N = d + 1 := ⟨i - N - 1, by have := hN s0; omega⟩
            rw [hd] at hi ⊢
            exact hi
        have hlen : (Hf (step s x).1 ++ (rec' .busy none :: X)).length = (Hf s ++ (rec' .ready none :: X)).length := by simp [hN]
        have hfin : ∀ pend, (step s x).2 = pend → (Hf (step s x).1 ++ (rec' .busy none :: X)).set ((Hf s0).length + 0) (rec' (st pend) pend) = Hg (f (s, none) x).2 ++ X := by
          rintro pend rfl
          rw [hset]
          show _ = Hf (step s x).1 ++ [rec' (st (step s x).2) (step s x).2] ++ X
          rw [List.append_assoc]
          rfl
        cases x2 with
        | panic v => exact hx2.elim
        | normal =>
          have e1 : (step s x).2 = none := hx2
          refine ⟨.ready, none, _, L, rfl, hlen, hget _ _, hkeep, rfl, rfl, ?_, ?_⟩
          · show AEnd.ret (.bool true) = .ret (.bool (step s x).2.isNone)
            rw [e1]; rfl
          · exact hfin none e1
        | ret =>
          have e1 : (step s x).2 = some .ret := hx2
          refine ⟨.done, some .ret, _, L, rfl, hlen, hget _ _, hkeep, rfl, rfl, ?_, ?_⟩
          · show AEnd.ret (.bool false) = .ret (.bool (step s x).2.isNone)
            rw [e1]; rfl
          · exact hfin _ e1
        | exit i =>
          have e1 : (step s x).2 = some (.exit i) := hx2
          refine ⟨.done, some (.exit i), _, L, rfl, hlen, hget _ _, hkeep, rfl, rfl, ?_, ?_⟩
          · show AEnd.ret (.bool false) = .ret (.bool (step s x).2.isNone)
            rw [e1]; rfl
          · exact hfin _ e1
    · rintro ⟨s, pd⟩ x ⟨hs, rfl⟩ hx hf
      have e1 : (step s x).2 = none := by simpa [f] using hf
      exact ⟨hnx s x hs hx e1, e1⟩
    · rintro ⟨s, p⟩ ⟨s', p'⟩
      simp [Hg, hN]
    · rintro ⟨s, p⟩ ⟨s', p'⟩ X i o hi
      have hi' : (Hf s' ++ (rec' (st p') p' :: X))[i]? = some o := by
        have : Hg (s', p') ++ X = Hf s' ++ (rec' (st p') p' :: X) := by show Hf s' ++ [_] ++ X = _; rw [List.append_assoc]; rfl
        rw [← this]; exact hi
      have he : Hg (s, p) ++ X = Hf s ++ (rec' (st p) p :: X) := by show Hf s ++ [_] ++ X = _; rw [List.append_assoc]; rfl
      rw [he]
      rcases Nat.lt_or_ge i N with hlt | hge
      · rw [List.getElem?_append_left (by rw [hN]; exact hlt)] at hi'
        rcases htr' s _ i o hi' with h1 | h1
        · exact .inl (by rw [List.getElem?_append_left (by rw [hN]; exact hlt)]; exact h1)
        · exact .inr (hle (by simp [hN]) h1)
      · rw [List.getElem?_append_right (by rw [hN]; exact hge), hN] at hi'
        rw [List.getElem?_append_right (by rw [hN]; exact hge), hN]
        cases hd : i - N with
        | zero =>
          rw [hd] at hi'
          injection hi' with hi'
          subst hi'
          exact .inr (hle (by simp [hN]) (hrl _ _))
        | succ d => rw [hd] at hi'; exact .inl hi'
  have hrun : ∀ (its : List ι) (s : σ), runIt f (s, none) its = runStep step s its := by
    intro its
    induction its with
    | nil => intro s; rfl
    | cons x xs ih =>
      intro s
      unfold runIt runStep
      cases hst : step s x with
      | mk s' j =>
        have hf1 : f (s, none) x = (j.isNone, (s', j)) := by show ((step s x).2.isNone, step s x) = _; rw [hst]
        rw [hf1]
        cases j with
        | none => exact ih s'
        | some j => rfl
  have h := hI _ _ _ Hg f _ hy (fun p X => by show pre (Hf p.1 ++ [_] ++ X); rw [List.append_assoc]; exact hpre _ _) (fun ha p x hp hx => by show (step p.1 x).2.isNone = true; rw [hal ha p.1 x hp.1 hx]; rfl) (s0, none) [] ⟨h0, rfl⟩
  · have hHg : Hg (s0, none) ++ [] = Hf s0 ++ [lobj fn' tmps pl.toArray assign body r t .ready none] := by rw [List.append_nil]; rfl
    rw [hHg] at h
    refine h.mono ?_
    rintro e H' ⟨rfl, its, hPi, rfl⟩
    rw [hrun, List.append_nil]
    have hget : (Hg (runStep step s0 its))[(Hf s0).length]? = some (rec' (st (runStep step s0 its).2) (runStep step s0 its).2) := by
      show (Hf _ ++ [_])[_]? = _
      rw [hN s0, ← hN (runStep step s0 its).1, List.getElem?_append_right (Nat.le_refl _), Nat.sub_self]
      rfl
    refine ⟨⟨_, rfl⟩, _, _, hget, ?_, ?_⟩
    · show st _ ≠ _
      simp only [st]
      split <;> simp
    · have : (Hg (runStep step s0 its)).set (Hf s0).length (lobj fn' tmps pl.toArray assign body r t .exhausted (runStep step s0 its).2) = Hf (runStep step s0 its).1 ++ [rec' .exhausted (runStep step s0 its).2] := by
        show (Hf _ ++ [_]).set _ _ = _
        rw [hN s0, ← hN (runStep step s0 its).1, List.set_append_right _ _ (Nat.le_refl _), Nat.sub_self]
        rfl
      rw [this]
      exact hk rec' its hPi

theorem WpA.rangeP {σ : Type} {g : Operand} {pl : List Tmp} {assign body : Code} {q : Nat} {caps : List AV} {fn : Func} {code : Code} {items : List (List AV)} {P : List (List AV) → Prop} (Hf : σ → List AObj) (step : σ → List AV → σ × Option Code) (ok : σ → Prop) (s0 : σ) {N : Nat}
    (hg : evalA E.G t g = .func q caps) (hf : E.P.funcs[q]? = some fn) (hb : fn.body = some code) (hnm : (fn.name == "runtime.NumGoroutine") = false)
    {pre : List AObj → Prop} (hI : IterP E q caps pre items P) (hpre : ∀ s X, pre (Hf s ++ X)) (h0 : ok s0) (hN : ∀ s, (Hf s).length = N)
    (htr' : ∀ s s', ∀ (i : Nat) o, (Hf s')[i]? = some o → (Hf s)[i]? = some o ∨ OBd N o) (hts : BdS N t)
    (hpl : ∀ x ∈ items, pl.length = x.length) (hpn : ∀ p ∈ pl, p < n)
    (hnx : ∀ s x, ok s → x ∈ items → (step s x).2 = none → ok (step s x).1)
    (hr : ∀ (rec : LoopState → Option Code → AObj) l s x X, ok s → x ∈ items → ∀ B B' : List AObj, B = Hf s ++ (rec .ready none :: X) → B' = Hf s ++ (rec .busy none :: X) → B.length = B'.length →
      WpA E (some l) n assign (fun x1 t1 H1 => x1 = .normal ∧ ∃ La, H1 = B ++ La ∧ WpA E (some l) n body (rndK Hf rec X (step s x)) t1 (B' ++ La)) (putPs pl x t) (B ++ []))
    (hk : ∀ (rec : LoopState → Option Code → AObj) its, P its → pendK K t (Hf (runStep step s0 its).1 ++ [rec .exhausted (runStep step s0 its).2]) (runStep step s0 its).2) (hmk : E.marks = true := by rfl) :
    WpA E none n (.rangeFunc g pl.toArray assign body) K t (Hf s0) :=
  WpA.rangeG Hf step ok s0 (args := id) (pr := fun _ _ => True) (P := (· ∈ items)) (Q := P) hg hf hb hnm (al := false) (fun yn yj σ Hf f ok hy hp _ s X hs => hI yn yj σ Hf f ok ⟨fun s x X h1 h2 => hy.app s x X h1 h2 trivial, hy.next, hy.len, hy.tr⟩ hp s X hs) hpre h0 hN htr' hts hpl hpn hnx (fun rec l s x X _ h1 h2 B B' h3 h4 h5 _ => hr rec l s x X h1 h2 B B' h3 h4 h5) hk (fun h => by cases h) hmk

theorem WpA.rangeI {σ : Type} {g : Operand} {pl : List Tmp} {assign body : Code} {q : Nat} {caps : List AV} {fn : Func} {code : Code} {items : List (List AV)} (Hf : σ → List AObj) (step : σ → List AV → σ × Option Code) (ok : σ → Prop) (s0 : σ) {N : Nat}
    (hg : evalA E.G t g = .func q caps) (hf : E.P.funcs[q]? = some fn) (hb : fn.body = some code) (hnm : (fn.name == "runtime.NumGoroutine") = false)
    {pre : List AObj → Prop} (hI : IterA E q caps pre items) (hpre : ∀ s X, pre (Hf s ++ X)) (h0 : ok s0) (hN : ∀ s, (Hf s).length = N)
    (htr' : ∀ s s', ∀ (i : Nat) o, (Hf s')[i]? = some o → (Hf s)[i]? = some o ∨ OBd N o) (hts : BdS N t)
    (hpl : ∀ x ∈ items, pl.length = x.length) (hpn : ∀ p ∈ pl, p < n)
    (hnx : ∀ s x, ok s → x ∈ items → (step s x).2 = none → ok (step s x).1)
    (hr : ∀ (rec : LoopState → Option Code → AObj) l s x X, ok s → x ∈ items → ∀ B B' : List AObj, B = Hf s ++ (rec .ready none :: X) → B' = Hf s ++ (rec .busy none :: X) → B.length = B'.length →
      WpA E (some l) n assign (fun x1 t1 H1 => x1 = .normal ∧ ∃ La, H1 = B ++ La ∧ WpA E (some l) n body (rndK Hf rec X (step s x)) t1 (B' ++ La)) (putPs pl x t) (B ++ []))
    (hk : ∀ (rec : LoopState → Option Code → AObj), pendK K t (Hf (runStep step s0 items).1 ++ [rec .exhausted (runStep step s0 items).2]) (runStep step s0 items).2) (hmk : E.marks = true := by rfl) :
    WpA E none n (.rangeFunc g pl.toArray assign body) K t (Hf s0) :=
  WpA.rangeP Hf step ok s0 (P := fun its => its = items) hg hf hb hnm (fun yn yj σ Hf f ok hy hp s X hs => (hI yn yj σ Hf f ok hy hp s X hs).mono fun e H' h => ⟨h.1, items, rfl, h.2⟩) hpre h0 hN htr' hts hpl hpn hnx hr (fun rec its hi => by subst hi; exact hk rec) hmk
end ranges

end Go.Gp

/- Boxes of the activation's own, seen from a round. -/
namespace Go.Gp
open Go.RowKit
set_option linter.unusedVariables false
set_option linter.unusedSimpArgs false

theorem two_get {B H0 L0 X : List AObj} {j : Nat} {o : AObj} (hB : B = H0 ++ (L0 ++ X)) (hL : L0[j]? = some o) : B[H0.length + j]? = some o := by
  have hj := get_lt hL
  rw [hB, List.getElem?_append_right (by omega), Nat.add_sub_cancel_left, List.getElem?_append_left hj]
  exact hL

theorem two_set {B H0 L0 X : List AObj} {j : Nat} {o o' : AObj} (hB : B = H0 ++ (L0 ++ X)) (hL : L0[j]? = some o) : B.set (H0.length + j) o' = H0 ++ (L0.set j o' ++ X) := by
  have hj := get_lt hL
  rw [hB, List.set_append_right _ _ (by omega), Nat.add_sub_cancel_left, List.set_append_left _ _ hj]

section rules
variable {E : Env} {ro : Option Nat} {n : Nat} {K : Kont} {t : Slots} {B H0 L0 X L : List AObj} {ops : Array Oper} {o : Oper} {rest : List Oper}

theorem WpOps.load2 {d ty j off : Nat} {i : TI} {p : Operand} {cs : List AV} (hB : B = H0 ++ (L0 ++ X)) (av : AV) (hw : wantedA ops t o = some true) (hd : o.dst = some d) (hdn : Nat.blt d n = true) (hop : o.op = .load ty p)
    (hp : evalA E.G t p = .ptr H0.length j off) (hL : L0[j]? = some (.cells cs)) (hi : lookT E.T ty = some i) (hle : Nat.ble (off + i.sz) cs.length = true) (hv : varA i (cs.drop off) = some av)
    (hk : WpOps E ro n ops rest K ((d, av) :: t) (B ++ L)) : WpOps E ro n ops (o :: rest) K t (B ++ L) :=
  .loadOut av hw hd hdn hop hp (two_get hB hL) hi hle hv hk

theorem WpOps.store2 {ty j off : Nat} {i : TI} {p x : Operand} {cs as : List AV} (hB : B = H0 ++ (L0 ++ X)) (hw : wantedA ops t o = some true) (hd : o.dst = none) (hop : o.op = .store ty p x)
    (hp : evalA E.G t p = .ptr H0.length j off) (hL : L0[j]? = some (.cells cs)) (hx : cellsA (evalA E.G t x) = some as) (hi : lookT E.T ty = some i) (hsz : Nat.beq as.length i.sz = true) (hone : allOne as = true) (hle : Nat.ble (off + as.length) cs.length = true)
    (hk : ∀ B' : List AObj, B' = H0 ++ (L0.set j (.cells (putA cs off as)) ++ X) → B.length = B'.length → WpOps E ro n ops rest K t (B' ++ L)) : WpOps E ro n ops (o :: rest) K t (B ++ L) :=
  .storeOut hw hd hop hp (two_get hB hL) hx hi hsz hone hle (hk _ (two_set hB hL) (by simp))
end rules
end Go.Gp

/- Rows that came in; nil handed on as a row; what is cut off behind a call. -/
namespace Go.Gp
open Go.RowKit
set_option linter.unusedVariables false
set_option linter.unusedSimpArgs false

section
variable {E : Env} {ro : Option Nat} {n : Nat} {K : Kont} {t : Slots} {H H' H1 L : List AObj} {ops : Array Oper} {o : Oper} {l rest : List Oper} {cl : List Nat} {k d : Nat} {av : AV} {Kc : Slots → List AObj → Prop}

/-- An append to a row whose tail came in. -/
theorem P1.appX {ty tx e z m j : Nat} {i ix : TI} {p q : Operand} {xs ys : List (List AV)}
    (hop : o.op = .call { callee := .builtin .append, args := ⟨[p, q]⟩, argTypes := ⟨[ty, tx]⟩ }) (hs : sliceOf E.T ty = some (e, i)) (hz : i.sz = z) (hx : lookT E.T tx = some ix) (hd : ∀ k, ix.d ≠ .int k)
    (hb : Nat.blt 0 i.bytes = true) (hz0 : Nat.blt 0 z = true) (hzs : Nat.beq i.zero.cells.size z = true) (hp : evalA E.G t p = .sl (.row m j) z xs) (hL : H[m + j]? = some (.tail xs.length z)) (hq : srcA z (evalA E.G t q) = some ys) (hone : ∀ y ∈ ys, ∀ a ∈ y, a.one = true)
    (hfit : (xs.length + ys.length) * i.bytes ≤ 140737488355328) :
    P1 E n (H ++ L) (H.set (m + j) (.tail (xs ++ ys).length z) ++ L) o t (.sl (.row m j) z (xs ++ ys)) :=
  ⟨fun cc e => (by rw [hop] at e; cases e), fun c a hH ho sr => by
    subst hz
    have hpr := eval_rel ho sr p
    rw [hp] at hpr
    have hqr := eval_rel ho sr q
    obtain ⟨s1, s2⟩ := srcA_ok hq hqr
    have hlt := get_lt hL
    have hcH : c.H[m + j]? = some (.tail xs.length i.sz) := by rw [hH, List.getElem?_append_left hlt]; exact hL
    obtain ⟨v', ι', w', h1, h2, h3, h4⟩ := app_row (ty0 := o.type) ho.hr hs hx hd (by simpa using hb) (by simpa using hz0) hone (Nat.eq_of_beq_eq_true hzs) hcH hpr s1 s2 hfit
    rw [hH, List.set_append_left _ _ hlt] at h2 h3 h4
    rw [List.length_append]
    refine ⟨v', ι', w', ?_, h2, h3, h4⟩
    simp [execOp, hop, resolve, invoke, builtin, h1]⟩

theorem WpOps.appX {ty tx e z m j : Nat} {i ix : TI} {p q : Operand} {xs ys : List (List AV)} (hw : wantedA ops t o = some true) (hd : o.dst = some d) (hdn : Nat.blt d n = true)
    (hop : o.op = .call { callee := .builtin .append, args := ⟨[p, q]⟩, argTypes := ⟨[ty, tx]⟩ }) (hs : sliceOf E.T ty = some (e, i)) (hz : i.sz = z) (hx : lookT E.T tx = some ix) (hdd : ∀ k, ix.d ≠ .int k)
    (hb : Nat.blt 0 i.bytes = true) (hz0 : Nat.blt 0 z = true) (hzs : Nat.beq i.zero.cells.size z = true) (hp : evalA E.G t p = .sl (.row m j) z xs) (hL : H[m + j]? = some (.tail xs.length z)) (hq : srcA z (evalA E.G t q) = some ys) (hone : ∀ y ∈ ys, ∀ a ∈ y, a.one = true)
    (hfit : (xs.length + ys.length) * i.bytes ≤ 140737488355328)
    (hk : WpOps E ro n ops rest K ((d, .sl (.row m j) z (xs ++ ys)) :: t) (H.set (m + j) (.tail (xs ++ ys).length z) ++ L)) : WpOps E ro n ops (o :: rest) K t (H ++ L) :=
  .p1 hw hd hdn (.appX hop hs hz hx hdd hb hz0 hzs hp hL hq hone hfit) hk
end

/-- A nil that is handed on as a row of its own. -/
theorem CallsA.adopt {E : Env} {g : Nat} {us ws : List AV} {z z0 : Nat} {H : List AObj} {R : AEnd → List AObj → Prop}
    (h : CallsA E g (us ++ ([.sl (.row H.length 0) z []] ++ ws)) (H ++ [.tail 0 z]) R) : CallsA E g (us ++ ([.sl .full z0 []] ++ ws)) H R := by
  refine ⟨?_⟩
  intro c vs e1 e2 e3
  subst e1
  have hx := Ext.adopt c z e2.hr
  have hh := e2.hr.adopt z
  have hlen : us.length ≤ vs.length := by rw [← e3.1]; simp
  have h1 : RelL (c.adopt z) (us ++ ([.sl (.row c.H.length 0) z []] ++ ws)) vs := by
    refine ⟨by have := e3.1; simpa using this, fun i a v ha hv => ?_⟩
    by_cases hi : i = us.length
    · subst hi
      rw [List.getElem?_append_right (Nat.le_refl _), Nat.sub_self] at ha
      injection ha with ha
      subst ha
      refine RelV.adopt (z0 := z0) e2.hr (by simp) (e3.2 us.length _ v ?_ hv)
      rw [List.getElem?_append_right (Nat.le_refl _), Nat.sub_self]
      rfl
    · refine (e3.2 i a v ?_ hv).mono hx.toExt0
      rcases Nat.lt_or_ge i us.length with hlt | hge
      · rw [List.getElem?_append_left hlt] at ha ⊢; exact ha
      · rw [List.getElem?_append_right hge] at ha ⊢
        obtain ⟨k, hk⟩ : ∃ k, i - us.length = k + 1 := ⟨i - us.length - 1, by omega⟩
        rw [hk] at ha ⊢
        exact ha
  have h2 := h.out (c.adopt z) vs rfl (e2.step hx hh) h1
  have hfin : ∀ e w, PostC E.G (c.adopt z) R e w → PostC E.G c R e w := by
    rintro e w ⟨ι, H', x, a1, a2, a3, a4⟩
    exact ⟨ι, H', x, hx.trans a1, a2, a3, a4⟩
  show UponC E.P _ ((callFunc g vs.toArray).run E.P c.w)
  have hw : (c.adopt z).w = c.w := rfl
  rw [hw] at h2
  unfold UponC at h2 ⊢
  split at h2
  · exact Calls.mono h2 hfin
  · exact hfin _ _ h2
  · exact h2.elim

/-- Behind a call: what was laid is cut off, less is said of the result. -/
theorem CallsA.cut {E : Env} {g : Nat} {as : List AV} {H H1 : List AObj} {r : AV} (hl : H1.length = H.length) (ht : TrOk H H1) (hb : Bd H.length r)
    (h : CallsA E g as H (fun e H' => ∃ L r0, H' = H1 ++ L ∧ e = .ret r0 ∧ Sub r0 r)) : CallsA E g as H (fun e H' => H' = H1 ∧ e = .ret r) := by
  refine ⟨?_⟩
  intro c vs e1 e2 e3
  have h2 := h.out c vs e1 e2 e3
  subst e1
  have hfin : ∀ e w, PostC E.G c (fun e H' => ∃ L r0, H' = H1 ++ L ∧ e = .ret r0 ∧ Sub r0 r) e w → PostC E.G c (fun e H' => H' = H1 ∧ e = .ret r) e w := by
    rintro e w ⟨ι, H', x, a1, a2, a3, L, r0, rfl, rfl, hs⟩
    cases e with
    | panicked _ => exact a3.elim
    | outgrown => exact a3.elim
    | returned v =>
      refine RetR.use (c' := ⟨ι, H1 ++ L, w⟩) (v := r) (e := .ret r) a1 e2 a2 (.cut H1 L rfl hl ht hb ⟨rfl, rfl⟩) ?_
      have hr : RelV ⟨ι, H1 ++ L, w⟩ r v := hs _ _ a3
      rintro c'' (rfl | ⟨rfl, hbd⟩)
      · exact hr
      · exact hr.trunc hbd
  unfold UponC at h2 ⊢
  split at h2
  · exact Calls.mono h2 hfin
  · exact hfin _ _ h2
  · exact h2.elim

theorem grow {H A L X : List AObj} (h : X = A ++ L) : H ++ X = (H ++ A) ++ L := by rw [h, List.append_assoc]

theorem Agree.cons {d : Nat} {v : AV} : ∀ {T t : Slots}, (∀ p ∈ T, p.1 ≠ d) → Agree T t → Agree T ((d, v) :: t)
  | [], t, _, _ => trivial
  | (k, u) :: r, t, hd, h => by
    refine ⟨?_, Agree.cons (fun p hp => hd p (List.mem_cons_of_mem _ hp)) h.2⟩
    show (bif Nat.beq d k then v else look t k) = u
    have : Nat.beq d k = false := by
      cases hb : Nat.beq d k with
      | false => rfl
      | true => exact absurd (Nat.eq_of_beq_eq_true hb).symm (hd _ List.mem_cons_self)
    rw [this]
    exact h.1

/-- A loop whose state is known at each round. -/
theorem WpA.loopFor {E : Env} {ro : Option Nat} {n : Nat} {K : Kont} {t : Slots} {H : List AObj} {body : Code} (N : Nat) (T : Nat → Slots) (Hf : Nat → List AObj) (ok : Nat → Prop) (h0 : ok 0) (hT : Agree (T 0) t) (hH : H = Hf 0)
    (hr : ∀ i, i < N → ok i → WpA E ro n body (thenK (fun t' H' => ok (i + 1) ∧ Agree (T (i + 1)) t' ∧ H' = Hf (i + 1)) K) (T i) (Hf i))
    (hx : ok N → WpA E ro n body (thenK (fun _ _ => False) K) (T N) (Hf N)) : WpA E ro n (.loop body) K t H := by
  refine WpA.loopS (α := Nat) T Hf (fun i => i ≤ N ∧ ok i) (fun i => N - i) 0 ⟨Nat.zero_le _, h0⟩ hT hH ?_
  rintro i ⟨hi, ho⟩
  rcases Nat.lt_or_ge i N with hlt | hge
  · refine (hr i hlt ho).mono fun x t' H' h => ?_
    cases x with
    | normal => exact ⟨i + 1, ⟨by omega, h.1⟩, by omega, h.2.1, h.2.2⟩
    | exit i => exact h
    | ret => exact h
    | panic v => exact h
  · have : i = N := by omega
    subst this
    refine (hx ho).mono fun x t' H' h => ?_
    cases x with
    | normal => exact h.elim
    | exit i => exact h
    | ret => exact h
    | panic v => exact h

/-- What a round that goes on leaves: the next state, and what it has laid. -/
def goOn (T : Slots) (H1 : List AObj) (ok : Prop) (K : Kont) : Kont
  | .normal, t', H' => ok ∧ Agree T t' ∧ ∃ L, H' = H1 ++ L
  | x, t', H' => K x t' H'

/-- .. what a round lays is left out of sight. -/
theorem WpA.loopG {E : Env} {ro : Option Nat} {n : Nat} {K : Kont} {t : Slots} {H : List AObj} {body : Code} (N : Nat) (T : Nat → Slots) (Hf : Nat → List AObj) (ok : Nat → Prop) (h0 : ok 0) (hT : Agree (T 0) t) (hH : H = Hf 0)
    (hl : ∀ i, i < N → (Hf (i + 1)).length = (Hf i).length) (htr : ∀ i, i < N → ok i → TrOk (Hf i) (Hf (i + 1))) (hbd : ∀ i, i < N → ok i → BdS (Hf i).length (T (i + 1)))
    (hr : ∀ i, i < N → ok i → WpA E ro n body (goOn (T (i + 1)) (Hf (i + 1)) (ok (i + 1)) K) (T i) (Hf i))
    (hx : ok N → WpA E ro n body (thenK (fun _ _ => False) K) (T N) (Hf N)) (hT' : ∀ i, Agree (T i) (T i)) : WpA E ro n (.loop body) K t H := by
  refine WpA.loopFor N T Hf ok h0 hT hH (fun i hi ho => ?_) hx
  refine WpA.scope ((hr i hi ho).mono fun x t' H' h => ?_)
  cases x with
  | normal =>
    obtain ⟨h1, h2, L, rfl⟩ := h
    exact .inr ⟨Hf (i + 1), L, T (i + 1), rfl, hl i hi, htr i hi ho, h2, hbd i hi ho, fun v e => (by cases e), h1, hT' (i + 1), rfl⟩
  | exit i => exact .inl h
  | ret => exact .inl h
  | panic v => exact .inl h

/-- Where ways meet again. -/
theorem WpA.joinS {E : Env} {ro : Option Nat} {n : Nat} {K : Kont} {t : Slots} {H : List AObj} {code rest : Code} (T : Slots) (H1 : List AObj)
    (h : WpA E ro n code (thenK (fun t' H' => Agree T t' ∧ H' = H1) K) t H) (hrest : WpA E ro n rest K T H1) : WpA E ro n code (thenK (WpA E ro n rest K) K) t H :=
  h.mono fun x t' H' h => by
    cases x with
    | normal => obtain ⟨h1, rfl⟩ := h; exact hrest.weak h1
    | exit i => exact h
    | ret => exact h
    | panic v => exact h

/-- An append to a row that came in; the heap behind it under a name. -/
theorem WpOps.appY {E : Env} {ro : Option Nat} {n : Nat} {K : Kont} {t : Slots} {H L : List AObj} {ops : Array Oper} {o : Oper} {rest : List Oper} {d ty tx e z m j : Nat} {i ix : TI} {p q : Operand} {xs : List (List AV)} (ys : List (List AV)) (hw : wantedA ops t o = some true) (hd : o.dst = some d) (hdn : Nat.blt d n = true)
    (hop : o.op = .call { callee := .builtin .append, args := ⟨[p, q]⟩, argTypes := ⟨[ty, tx]⟩ }) (hs : sliceOf E.T ty = some (e, i)) (hz : i.sz = z) (hx : lookT E.T tx = some ix) (hdd : ∀ k, ix.d ≠ .int k)
    (hb : Nat.blt 0 i.bytes = true) (hz0 : Nat.blt 0 z = true) (hzs : Nat.beq i.zero.cells.size z = true) (hp : evalA E.G t p = .sl (.row m j) z xs) (hq : srcA z (evalA E.G t q) = some ys) (hL : H[m + j]? = some (.tail xs.length z)) (hone : ∀ y ∈ ys, ∀ a ∈ y, a.one = true)
    (hfit : (xs.length + ys.length) * i.bytes ≤ 140737488355328)
    (hk : ∀ B, B = H.set (m + j) (.tail (xs ++ ys).length z) → H.length = B.length → WpOps E ro n ops rest K ((d, .sl (.row m j) z (xs ++ ys)) :: t) (B ++ L)) : WpOps E ro n ops (o :: rest) K t (H ++ L) :=
  .appX hw hd hdn hop hs hz hx hdd hb hz0 hzs hp hL hq hone hfit (hk _ rfl (by simp))

end Go.Gp

/- Rows of bytes. -/
namespace Go.Gp
open Go.RowKit
set_option linter.unusedVariables false
set_option linter.unusedSimpArgs false

theorem one_bytes {ys : List (List AV)} (bs : List UInt8) (h : ys = bs.map byteRow) : ∀ y ∈ ys, ∀ a ∈ y, a.one = true := by
  subst h
  intro y hy a ha
  obtain ⟨b, _, rfl⟩ := List.mem_map.1 hy
  have := List.mem_singleton.1 ha
  subst this
  rfl

theorem bd_rowB {n m q : Nat} (h : m + q < n) (bs : List UInt8) : Bd n (.sl (.row m q) 1 (bs.map byteRow)) := by
  refine .sl (fun m' j' e => by injection e with e1 e2; subst e1; subst e2; exact h) fun x hx e he => ?_
  obtain ⟨b, _, rfl⟩ := List.mem_map.1 hx
  have := List.mem_singleton.1 he
  subst this
  exact .int

theorem bd_slB {n : Nat} (bs : List UInt8) : Bd n (.sl .no 1 (bs.map byteRow)) := by
  refine .sl (fun m' j' e => by cases e) fun x hx e he => ?_
  obtain ⟨b, _, rfl⟩ := List.mem_map.1 hx
  have := List.mem_singleton.1 he
  subst this
  exact .int

theorem u8wrap (n : Nat) : IntKind.u8.wrap (n : Int) = (((UInt8.ofNat n).toNat : Nat) : Int) := by
  rw [UInt8.toNat_ofNat']
  simp only [IntKind.wrap, IntKind.bits, IntKind.signed]
  simp
theorem row1 (n : Nat) : [[AV.int .u8 (IntKind.u8.wrap (n : Int))]] = [UInt8.ofNat n].map byteRow := by rw [u8wrap]; rfl

/-- The row has become this one. -/
def rowIs (H : List AObj) (m q : Nat) (b : List UInt8) : AEnd → List AObj → Prop := fun e H' => H' = H.set (m + q) (.tail b.length 1) ∧ e = .ret (.sl (.row m q) 1 (b.map byteRow))

/-- An append of bytes to a row that came in. -/
theorem WpOps.appB {E : Env} {ro : Option Nat} {n : Nat} {K : Kont} {t : Slots} {H L : List AObj} {ops : Array Oper} {o : Oper} {rest : List Oper} {d ty tx e m j : Nat} {i ix : TI} {p q : Operand} {b : List UInt8} (c : List UInt8) {ys : List (List AV)} (hL : H[m + j]? = some (.tail b.length 1)) (hfit : b.length + c.length ≤ 140737488355328)
    (hw : wantedA ops t o = some true) (hd : o.dst = some d) (hdn : Nat.blt d n = true)
    (hop : o.op = .call { callee := .builtin .append, args := ⟨[p, q]⟩, argTypes := ⟨[ty, tx]⟩ }) (hs : sliceOf E.T ty = some (e, i)) (hz : i.sz = 1) (hx : lookT E.T tx = some ix) (hdd : ∀ k, ix.d ≠ .int k)
    (hb : i.bytes = 1) (hzs : Nat.beq i.zero.cells.size 1 = true) (hp : evalA E.G t p = .sl (.row m j) 1 (b.map byteRow)) (hq : srcA 1 (evalA E.G t q) = some ys) (hys : ys = c.map byteRow)
    (hk : ∀ B, B = H.set (m + j) (.tail (b ++ c).length 1) → H.length = B.length → WpOps E ro n ops rest K ((d, .sl (.row m j) 1 ((b ++ c).map byteRow)) :: t) (B ++ L)) : WpOps E ro n ops (o :: rest) K t (H ++ L) := by
  refine WpOps.appX hw hd hdn hop hs hz hx hdd (by rw [hb]; rfl) rfl hzs hp (by rw [List.length_map]; exact hL) hq (one_bytes c hys) (by rw [hb, hys, List.length_map, List.length_map]; omega) ?_
  have := hk _ rfl (by simp)
  rw [List.map_append, List.length_append] at this
  rw [hys, List.length_append, List.length_map, List.length_map]
  exact this

theorem WpA.heap {E : Env} {ro : Option Nat} {n : Nat} {K : Kont} {t : Slots} {H H' : List AObj} {code : Code} (h : H = H') (hw : WpA E ro n code K t H') : WpA E ro n code K t H := by rw [h]; exact hw

/-- A yield that is asked item after item, as a loop sees it. -/
def yStep {σ : Type} (f : σ → List AV → Bool × σ) : σ → List AV → σ × Option Code := fun s x => ((f s x).2, bif (f s x).1 then none else some .ret)
theorem runStep_y {σ : Type} (f : σ → List AV → Bool × σ) : ∀ (its : List (List AV)) (s : σ), runStep (yStep f) s its = (runIt f s its, bif allIt f s its then none else some .ret)
  | [], s => rfl
  | x :: xs, s => by
    unfold runStep runIt allIt yStep
    cases h : (f s x).1 with
    | true => exact runStep_y f xs _
    | false => rfl

/-- Less is known of the arguments than there is. -/
theorem CallsA.subL {E : Env} {g : Nat} {us vs : List AV} {H : List AObj} {R : AEnd → List AObj → Prop} (h : SubL us vs) (hc : CallsA E g vs H R) : CallsA E g us H R :=
  ⟨fun c xs e1 e2 e3 => hc.out c xs e1 e2 (h.rel e3)⟩
theorem SubL.refl : ∀ us : List AV, SubL us us
  | [] => trivial
  | u :: us => ⟨Sub.refl u, SubL.refl us⟩

theorem or_byte {q b : Nat} (hb : b < 256) (h : 256 * q + b < 18446744073709551616) : (BitVec.ofInt 64 ((256 * q : Nat) : Int) ||| BitVec.ofInt 64 (b : Int)).toNat = 256 * q + b := by
  have e : ∀ n : Nat, n < 18446744073709551616 → (BitVec.ofInt 64 (n : Int)).toNat = n := fun n hn => by
    rw [BitVec.toNat_ofInt]
    omega
  rw [BitVec.toNat_or, e _ (by omega), e _ (by omega)]
  have := Nat.two_pow_add_eq_or_of_lt (i := 8) (b := b) hb q
  exact this.symm

theorem obd_tail {n a b : Nat} : OBd n (.tail a b) := ⟨fun cs e => (by cases e), fun es k e => (by cases e), fun r t e => (by cases e), fun _ _ _ _ _ e => (by cases e)⟩
theorem obd_cells {n : Nat} {cs : List AV} (h : ∀ a ∈ cs, Bd n a) : OBd n (.cells cs) := ⟨fun cs e => (by injection e with e; subst e; exact h), fun es k e => (by cases e), fun r t e => (by cases e), fun _ _ _ _ _ e => (by cases e)⟩
theorem TrOk.set1 {H : List AObj} {k : Nat} {o' : AObj} (h : OBd H.length o') : TrOk H (H.set k o') := fun i o hi => by
  rw [List.getElem?_set] at hi
  split at hi
  · split at hi
    · injection hi with hi; subst hi; exact .inr h
    · cases hi
  · exact .inl hi
theorem TrOk.set2 {H L : List AObj} {k : Nat} {o o' : AObj} (h : ∀ n, OBd n o') : TrOk (H.set k o ++ L) (H.set k o' ++ L) := fun i x hi => by
  rcases Nat.lt_or_ge i H.length with hlt | hge
  · rw [List.getElem?_append_left (by simpa using hlt)] at hi ⊢
    rw [List.getElem?_set] at hi ⊢
    split at hi
    · rename_i hk
      rw [if_pos (by omega)] at hi
      injection hi with hi
      subst hi
      exact .inr (h _)
    · rename_i hk
      rw [if_neg hk]
      exact .inl hi
  · rw [List.getElem?_append_right (by simpa using hge)] at hi ⊢
    simp only [List.length_set] at hi ⊢
    exact .inl hi
end Go.Gp

/- Calls that die. -/
namespace Go.Gp
open Go.RowKit
set_option linter.unusedVariables false
set_option linter.unusedSimpArgs false

theorem WpOps.callD {E : Env} {ro : Option Nat} {n : Nat} {K : Kont} {t : Slots} {H : List AObj} {ops : Array Oper} {o : Oper} {rest : List Oper} {d g : Nat} {caps : List AV} {f : Operand} {xs : List Operand} {ats : Array TypeId} {P : List AObj → Prop} {v : AV}
    (hw : wantedA ops t o = some true) (hd : o.dst = some d) (hdn : Nat.blt d n = true) (hop : o.op = .call { callee := .value f, args := ⟨xs⟩, argTypes := ats }) (hf : evalA E.G t f = .func g caps)
    (hc : CallsA E g (evalL E.G t xs ++ caps) H (fun e H' => P H' ∧ e = .panic v)) (hk : ∀ H', P H' → K (.panic v) t H') : WpOps E ro n ops (o :: rest) K t H :=
  .call hw hd hdn hop hf hc (fun x H' h => by obtain ⟨h1, rfl⟩ := h; exact hk H' h1)

theorem retK.dies' {E : Env} {rs : List ResultVar} {H H1 L : List AObj} {R : AEnd → List AObj → Prop} {v u : AV} {t : Slots} (hu : forget v = u) (hl : H1.length = H.length) (ht : TrOk H H1) (hb : Bd H.length u) (hR : R (.panic u) H1) :
    retK E rs H R (.panic v) t (H1 ++ L) := by
  show RetR H R (.panic (forget v)) (forget v) (H1 ++ L)
  rw [hu]
  exact .cut H1 L rfl hl ht hb hR
end Go.Gp
