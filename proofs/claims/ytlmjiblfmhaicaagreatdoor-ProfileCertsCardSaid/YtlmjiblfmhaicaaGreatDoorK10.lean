/- Part of a proof: GpA34, GpA35, GpA36, GpA37, GpA38, GpA39, GpA40 -/
import Derived.Test.YtlmjiblfmhaicaaGreatDoorK9
import Derived.RecoverIn

set_option linter.unusedSectionVars false

/- Functions with a deferred call; recover. -/
namespace Go.Gp
open Go.RowKit
set_option linter.unusedVariables false
set_option linter.unusedSimpArgs false

/-! ### A deferred call -/
def ModeR (c : Cfg) : Option AV → FrameMode → Prop
  | none, u => u = .returning
  | some v, u => ∃ x, u = .panicking [{ v := x, recovered := false }] ∧ RelV c v x

/-- Called as a deferred call (while the frame returns, or while it panics with a value), the function returns; r: it has recovered. -/
structure DefA (E : Env) (g : FuncId) (args : List AV) (H : List AObj) (pv : Option AV) (R : Bool → List AObj → Prop) : Prop where
  out : ∀ (c : Cfg) (vs : List Value) (u : FrameMode), c.H = H → Ok E.G c → RelL c args vs → ModeR c pv u → (∃ fn code, E.P.funcs[g]? = some fn ∧ fn.body = some code ∧ (fn.name == "runtime.NumGoroutine") = false) ∧
    CallsDIn Fence.wide 0 E.P g vs.toArray u c.w (fun e u' w' => (∃ v, e = .returned v) ∧ ∃ ι' H' r, Ext c ⟨ι', H', w'⟩ ∧ Ok E.G ⟨ι', H', w'⟩ ∧ R r H' ∧ (r = false → u' = u) ∧ (r = true → ∃ x, u = .panicking [{ v := x, recovered := false }] ∧ u' = .panicking [{ v := x, recovered := true }]))

/-- What is asked at the end of a deferred function's body. -/
def recK (H : List AObj) (r : Bool) (R : Bool → List AObj → Prop) : Kont := fun x t H' =>
  match x with
  | .normal | .ret => ∃ H1 L, H' = H1 ++ L ∧ H1.length = H.length ∧ TrOk H H1 ∧ R r H1
  | _ => False

theorem recover_region {E : Env} {id : Nat} {o : Oper} {l : List Oper} {d : Nat} {Q : Exit → Act → List Frame → World → Prop} {a : Act} {c₀ : Frame} {cs : List Frame} {w : World} {ats : Array TypeId}
    (hg : o.guard = none) (hop : o.op = .call { callee := .builtin .recover, args := #[], argTypes := ats }) (hd : o.dst = some d)
    (v : Value) (c₁ : Frame) (hrec : (recoverD (c₀ :: cs) = some (v, c₁ :: cs)) ∨ (recoverD (c₀ :: cs) = none ∧ v = .nilIface ∧ c₁ = c₀))
    {Q1 : Exit → Act → World → Prop} (h : wpListIn Fence.wide 0 E.P (o :: l).toArray Q1 l (a.put (some d) v) w) (hQ1 : ∀ e a' w', Q1 e a' w' → Q e a' (c₁ :: cs) w') :
    (Code.region id (o :: l).toArray false).wpSIn Fence.wide 0 E.P Q a (c₀ :: cs) w := by
  intro b k hb hr hF hroom
  have hlen : (c₁ :: cs).length = (c₀ :: cs).length := rfl
  have h0 : wpOpsIn Fence.wide 0 E.P (o :: l).toArray Q1 (List.range' 1 l.length) (a.put (some d) v) w := by
    rw [wpOpsIn_eq_wpListIn l 1 (fun j => by rw [Nat.add_comm]; simp)]
    exact h
  obtain ⟨e, a', w', hq, harr⟩ := wp_opsIn (F := Fence.wide) _ _ _ h0 b k (c₁ :: cs) hr hF hroom
  have ho : (o :: l).toArray[0]? = some o := rfl
  have hw : Region.wanted o (yielded (o :: l).toArray a.tmps) = true := by simp [Region.wanted, hg]
  have hrange : List.range (o :: l).toArray.size = 0 :: List.range' 1 l.length := by
    simp [List.range_eq_range', List.range'_succ]
  have hrun : (execOp a.eval o).run E.P w = .ok .recover w := by
    simp [execOp, hop, resolve, invoke, builtin]
  refine ⟨e, a', c₁ :: cs, w', rfl, hQ1 _ _ _ hq, .of_steps (.one (fenced_calm hF hroom rfl) stepR_region) ?_⟩
  rw [hrange]
  have hg' := stepGR_op (P := E.P) (b := b) (k := k) (cs := c₀ :: cs) (w := w) (rest := List.range' 1 l.length) ho hw
  rw [hr, Oper.semAt_none] at hg'
  have hfin : ∀ v, (b.atR a (.inRegion (o :: l).toArray (0 :: List.range' 1 l.length) :: k)).finish v = b.atR (a.put (some d) v) (.inRegion (o :: l).toArray (List.range' 1 l.length) :: k) := by
    intro v; rw [Frame.finish_atR, ho, ← hd]; rfl
  have hk : (b.atR a (.inRegion (o :: l).toArray (0 :: List.range' 1 l.length) :: k)).kind = .deferred := hb
  have htr := tryRecover_deferred hk (c₀ :: cs)
  have h00 : (lone (b.atR a (.inRegion (o :: l).toArray (0 :: List.range' 1 l.length) :: k)) (c₀ :: cs) w).fenced E.P Fence.wide := fenced_oper hF hroom ho (fun _ _ => trivial)
  refine .of_steps (.one h00 (step_lone_go ?_)) harr
  rw [hg', ← hfin]
  simp only [Frame.atR, hr] at htr ⊢
  rcases hrec with hrec | ⟨hrec, rfl, rfl⟩
  · simp [stepG.apply, hrun, htr, hrec]
  · simp [stepG.apply, hrun, htr, hrec]

/-- A deferred function whose first operation recovers. -/
theorem DefA.enter {E : Env} {g : FuncId} {args : List AV} {H : List AObj} {pv : Option AV} {R : Bool → List AObj → Prop} {fn : Func} {id d : Nat} {o : Oper} {l : List Oper} {rest : Code} {ats : Array TypeId}
    (hmk : E.marks = false) (hf : E.P.funcs[g]? = some fn) (hb : fn.body = some (.seq (.region id (o :: l).toArray false) rest)) (hn : (fn.name == "runtime.NumGoroutine") = false) (hrs : fn.results = #[]) (nt : Nat) (hnt : fn.ntmps = nt) (hargs : args.length ≤ nt)
    (hg : o.guard = none) (hop : o.op = .call { callee := .builtin .recover, args := #[], argTypes := ats }) (hd : o.dst = some d) (hdn : Nat.blt d nt = true)
    (h : WpOps E none nt (o :: l).toArray l (thenK (WpA E none nt rest (recK H pv.isSome R)) (recK H pv.isSome R)) ((d, pv.getD .nili) :: frame 0 args) (H ++ [])) : DefA E g args H pv R := by
  refine ⟨fun c vs u hH ho hr hm => ⟨⟨fn, _, hf, hb, hn⟩, ?_⟩⟩
  subst hnt
  refine callsDIn_of_wpSIn hf hb trivial fun c₀ cs hu => ?_
  have hsr0 : SR c fn.ntmps (frame 0 args) { tmps := vs.toArray ++ Array.replicate (fn.ntmps - vs.toArray.size) undef, defers := [] } := by
    have hl : args.length = vs.length := hr.1
    refine ⟨by simp; omega, fun i => ?_⟩
    rw [look_frame, if_pos (Nat.zero_le _), Nat.sub_zero]
    by_cases hi : i < args.length
    · have h1 : args[i]? = some args[i] := List.getElem?_eq_getElem hi
      have h2 : vs[i]? = some (vs[i]'(by omega)) := List.getElem?_eq_getElem (by omega)
      have h3 := hr.2 i _ _ h1 h2
      rw [h1]
      simp only [Option.getD_some]
      rw [Array.getD_eq_getD_getElem?, Array.getElem?_append_left (by simp; omega)]
      simp only [List.getElem?_toArray, h2, Option.getD_some]
      exact h3
    · rw [List.getElem?_eq_none (by omega)]
      exact .unk
  -- what recover gives
  obtain ⟨v, c₁, hrec, hv, hc₁⟩ : ∃ v c₁, ((recoverD (c₀ :: cs) = some (v, c₁ :: cs)) ∨ (recoverD (c₀ :: cs) = none ∧ v = .nilIface ∧ c₁ = c₀)) ∧ RelV c (pv.getD .nili) v ∧
      (∃ u', c₁ = { c₀ with mode := u' } ∧ ((pv.isSome = false → u' = u) ∧ (pv.isSome = true → ∃ x, u = .panicking [{ v := x, recovered := false }] ∧ u' = .panicking [{ v := x, recovered := true }]))) := by
    cases pv with
    | none =>
      have hu' : c₀.mode = .returning := hu.trans hm
      exact ⟨.nilIface, c₀, .inr ⟨by simp [recoverD, hu'], rfl, rfl⟩, .nili, u, by subst hu; rfl, (fun _ => rfl), (fun h => by cases h)⟩
    | some pv =>
      obtain ⟨x, hx, hxr⟩ := hm
      have hu' : c₀.mode = .panicking [{ v := x, recovered := false }] := hu.trans hx
      exact ⟨x, { c₀ with mode := .panicking [{ v := x, recovered := true }] }, .inl (by simp [recoverD, hu']), hxr, _, rfl, (fun h => by cases h), (fun _ => ⟨x, hx, rfl⟩)⟩
  obtain ⟨u', hc₁', hu0, hu1⟩ := hc₁
  have hfin : ∀ (e : Exit) (a : Act) (w : World), Post E.G fn.ntmps ((c, []), E.marks) c (recK H pv.isSome R) e a w → bodyPostS E.P fn c₀ cs (fun e u' w' => (∃ v, e = .returned v) ∧ ∃ ι' H' r, Ext c ⟨ι', H', w'⟩ ∧ Ok E.G ⟨ι', H', w'⟩ ∧ R r H' ∧ (r = false → u' = u) ∧ (r = true → ∃ x, u = .panicking [{ v := x, recovered := false }] ∧ u' = .panicking [{ v := x, recovered := true }])) e a (c₁ :: cs) w := by
    rintro e a w ⟨ι, H', t', x, h1, h2, h3, h4, h5, h6⟩
    have key : (∃ H1 L, H' = H1 ++ L ∧ H1.length = H.length ∧ TrOk H H1 ∧ R pv.isSome H1) → (a.defers = [] ∧ ∃ u', c₁ :: cs = { c₀ with mode := u' } :: cs ∧ ∃ v, (results fn a.tmps).run E.P w = .ok v w ∧ ((∃ v', (Ending.returned v) = .returned v') ∧ ∃ ι' H' r, Ext c ⟨ι', H', w⟩ ∧ Ok E.G ⟨ι', H', w⟩ ∧ R r H' ∧ (r = false → u' = u) ∧ (r = true → ∃ x, u = .panicking [{ v := x, recovered := false }] ∧ u' = .panicking [{ v := x, recovered := true }]))) := by
      rintro ⟨H1, L, rfl, hl, htr, hR⟩
      have hdef : a.defers = [] := by
        obtain ⟨D, d1, d2, _⟩ := h4
        rw [d1, d2 hmk]
        rfl
      have hres : (results fn a.tmps).run E.P w = .ok (.tuple #[]) w := by
        rw [results_eq, hrs]
        simp
      refine ⟨hdef, u', by rw [hc₁'], .tuple #[], hres, ⟨_, rfl⟩, ?_⟩
      subst hH
      have hE := h1.trunc (n := c.H.length) rfl
      have hbd : HBd c.H.length (H1 ++ L) := by
        intro o ho'
        obtain ⟨i, hi⟩ := List.getElem?_of_mem ho'
        rw [← hl, List.take_left] at hi
        rcases htr i o hi with g | g
        · exact ho.hr.obd g
        · exact g
      have hok := ho.step hE (h2.hr.trunc hbd)
      refine ⟨((⟨ι, H1 ++ L, w⟩ : Cfg).trunc c.H.length).ι, ((⟨ι, H1 ++ L, w⟩ : Cfg).trunc c.H.length).H, pv.isSome, hE, hok, ?_, hu0, hu1⟩
      show R _ ((H1 ++ L).take c.H.length)
      rw [← hl, List.take_left]
      exact hR
    cases e <;> cases x <;> first | exact h5.elim | exact h6.elim | exact key h6
  refine wpSIn_seq (recover_region hg hop hd v c₁ hrec (h.out (c, []) c c (({ tmps := vs.toArray ++ Array.replicate (fn.ntmps - vs.toArray.size) undef, defers := [] } : Act).put (some d) v) (Ext.refl c) (by rw [hH, List.append_nil]) ho (hsr0.put hdn hv) ⟨[], rfl, fun _ => rfl, List.nodup_nil, Nat.le_refl _, by simp⟩) ?_)
  rintro e a w ⟨ι, H', t', x, h1, h2, h3, h4, h5, h6⟩
  cases e with
  | normal =>
    cases x <;> try exact h5.elim
    refine wpSIn_of_wpIn rfl (wpIn_mono (h6.out (c, []) c ⟨ι, H', w⟩ a h1 rfl h2 h3 h4) fun e a w hp => hfin e a w hp)
  | exit id => cases x <;> first | exact h5.elim | exact h6.elim
  | goto l => cases x <;> exact h5.elim
  | outgrown => cases x <;> exact h5.elim
  | ret => cases x <;> first | exact h5.elim | exact hfin .ret a w ⟨ι, H', t', _, h1, h2, h3, h4, h5, h6⟩
  | panic ch => cases x <;> first | exact h5.elim | exact h6.elim

/-- .. without loops over iterators. -/
def Env.bare (E : Env) : Env := { E with marks := false }
theorem CallsA.bare {E : Env} {g : FuncId} {args : List AV} {H : List AObj} {R : AEnd → List AObj → Prop} (h : CallsA E g args H R) : CallsA E.bare g args H R := ⟨h.out⟩
/-! ### A function with a deferred call -/
theorem leaves_marksT {E : Env} {fn : Func} {tmps : Array Value} {R : Ending → World → Prop} {c0 : Cfg} {Q : Cfg → Prop} {ds : List Deferred}
    (hQ : ∀ c b, Q c → c.w.heap[b]? = some (.deferred (some [])) → c0.w.heap.size ≤ b → (∀ (id : Nat) o, c.H[id]? = some o → o.live = true → c.ι id ≠ some b) → Q (c.putBlock b (.deferred none)))
    (u : FrameMode) (hu : u ≠ .run) (hfin : ∀ c, Q c → LeavesInM Fence.wide 0 E.P fn tmps R ds u c.w) :
    ∀ (D : List Nat) (c : Cfg), D.Nodup → (∀ b ∈ D, c.w.heap[b]? = some (.deferred (some [])) ∧ c0.w.heap.size ≤ b ∧ ∀ (id : Nat) o, c.H[id]? = some o → o.live = true → c.ι id ≠ some b) → Q c →
      LeavesInM Fence.wide 0 E.P fn tmps R (marksOf D ++ ds) u c.w
  | [], c, _, _, hq => hfin c hq
  | b :: D, c, hn, hD, hq => by
    obtain ⟨h1, h2, h3⟩ := hD b List.mem_cons_self
    refine ⟨hu, .inl ⟨b, _, rfl, run_takeDeferred' h1, ?_⟩⟩
    refine leaves_marksT hQ u hu hfin D (c.putBlock b (.deferred none)) (List.nodup_cons.1 hn).2 (fun b' hb' => ?_) (hQ c b hq h1 h2 h3)
    obtain ⟨h4, h5, h6⟩ := hD b' (List.mem_cons_of_mem _ hb')
    have hne : b' ≠ b := fun e => by subst e; exact (List.nodup_cons.1 hn).1 hb'
    exact ⟨by rw [putBlock_get hne]; exact h4, h5, h6⟩

/-- What is asked at the end of a body with a deferred call. -/
def defK (E : Env) (rs : List ResultVar) (H : List AObj) (R : AEnd → List AObj → Prop) (g : FuncId) (dargs : List AV) : Kont := fun x t H' =>
  match x with
  | .normal | .ret => DefA E g dargs H' none (fun r H'' => r = false ∧ retK E rs H R .ret t H'')
  | .panic v => DefA E g dargs H' (some v) (fun r H'' => r = true ∧ retK E rs H R .ret t H'')
  | .exit _ => False

/-- The walk of a body up to its deferred call, and on. -/
structure WpQ (E : Env) (n : Nat) (code : Code) (Q : Exit → Act → World → Prop) (c0 : Cfg) (t : Slots) (H : List AObj) : Prop where
  out : ∀ (c : Cfg) (a : Act), Ext c0 c → c.H = H → Ok E.G c → SR c n t a → DefOk ((c0, []), E.marks) c a → code.wpIn (Fc none) 0 E.P Q a c.w
structure WpQO (E : Env) (n : Nat) (ops : Array Oper) (l : List Oper) (Q : Exit → Act → World → Prop) (c0 : Cfg) (t : Slots) (H : List AObj) : Prop where
  out : ∀ (c : Cfg) (a : Act), Ext c0 c → c.H = H → Ok E.G c → SR c n t a → DefOk ((c0, []), E.marks) c a → wpListIn (Fc none) 0 E.P ops Q l a c.w

theorem WpQ.seq {E : Env} {n : Nat} {x y : Code} {Q : Exit → Act → World → Prop} {c0 : Cfg} {t : Slots} {H : List AObj} {K : Kont} (hK : ∀ e a w, Post E.G n ((c0, []), E.marks) c0 K e a w → Q e a w)
    (h : WpA E none n x (thenK (WpQ E n y Q c0) K) t H) : WpQ E n (.seq x y) Q c0 t H := by
  refine ⟨fun c a e1 e2 e3 e4 e5 => wpIn_seq (wpIn_mono (h.out (c0, []) c0 c a e1 e2 e3 e4 e5) ?_)⟩
  rintro e a' w' ⟨ι, H', t', x', h1, h2, h3, h4, h5, h6⟩
  cases e with
  | normal =>
    cases x' <;> try exact h5.elim
    exact h6.out ⟨ι, H', w'⟩ a' h1 rfl h2 h3 h4
  | exit id => cases x' <;> first | exact h5.elim | exact hK _ _ _ ⟨ι, H', t', _, h1, h2, h3, h4, h5, h6⟩
  | goto l => cases x' <;> exact h5.elim
  | ret => cases x' <;> first | exact h5.elim | exact hK _ _ _ ⟨ι, H', t', _, h1, h2, h3, h4, h5, h6⟩
  | panic ch => cases x' <;> first | exact h5.elim | exact hK _ _ _ ⟨ι, H', t', _, h1, h2, h3, h4, h5, h6⟩
  | outgrown => cases x' <;> exact h5.elim

theorem WpQ.region {E : Env} {n id : Nat} {l : List Oper} {rest : Code} {Q : Exit → Act → World → Prop} {c0 : Cfg} {t : Slots} {H : List AObj}
    (h : WpQO E n l.toArray l (Exit.then (rest.wpIn (Fc none) 0 E.P Q) Q) c0 t H) : WpQ E n (.seq (.region id l.toArray false) rest) Q c0 t H :=
  ⟨fun c a e1 e2 e3 e4 e5 => wpIn_seq (wpIn_region_lit (h.out c a e1 e2 e3 e4 e5))⟩

theorem WpQO.p1 {E : Env} {n d : Nat} {ops : Array Oper} {o : Oper} {rest : List Oper} {Q : Exit → Act → World → Prop} {c0 : Cfg} {t : Slots} {H H1 : List AObj} {av : AV} (hw : wantedA ops t o = some true) (hd : o.dst = some d) (hdn : Nat.blt d n = true)
    (h : P1 E n H H1 o t av) (hk : WpQO E n ops rest Q c0 ((d, av) :: t) H1) : WpQO E n ops (o :: rest) Q c0 t H := by
  refine ⟨fun c a e1 e2 e3 e4 e5 => ?_⟩
  obtain ⟨v, ι', w', hr, hx, hh, hv⟩ := h.out c a e2 e3 e4
  refine wpListIn_of (wanted_eq e4 hw) h.nd ?_
  rw [hr, Oper.uponIn_value, hd]
  exact hk.out ⟨ι', H1, w'⟩ _ (e1.trans hx) rfl (e3.step hx hh) ((e4.mono hx).put hdn hv) (e5.mono hx rfl)

/-- The end of a function: what its results are. -/
theorem ret_leaves {E : Env} {fn : Func} {rs : List ResultVar} (hrs : fn.results = rs.toArray) {R : AEnd → List AObj → Prop} {c c' : Cfg} {H : List AObj} (hH : c.H = H) (ho : Ok E.G c) {t : Slots} {a : Act}
    (hx : Ext c c') (ho' : Ok E.G c') (hs : SR c' fn.ntmps t a) (hk : retK E rs H R .ret t c'.H) : LeavesIn Fence.wide 0 E.P fn a.tmps (PostC E.G c R) [] .returning c'.w := by
  obtain ⟨H1, L, as, r, hHL, hlen, has, hbs, hfr, hR⟩ := hk
  obtain ⟨v, hv, hrv⟩ := run_results (E := E) (H := H1) (L := L) (n0 := H.length) hHL hlen ho'.hr hs hrs has hbs
  refine ⟨v, hv, ?_⟩
  subst hH
  refine RetR.use hx ho ho' hR ?_
  have hrv' : RelV c' r v := hfr _ _ hrv
  rintro c'' (rfl | ⟨rfl, hbd⟩)
  · exact hrv'
  · exact hrv'.trunc hbd

theorem WpQO.defer {E : Env} {fn : Func} {rs : List ResultVar} (hrs : fn.results = rs.toArray) {nt : Nat} (hnt : fn.ntmps = nt) {R : AEnd → List AObj → Prop} {c0 : Cfg} {H0 : List AObj} (hH0 : c0.H = H0) (ho0 : Ok E.G c0) {ops : Array Oper} {o : Oper} {rest : Code} {t : Slots} {H : List AObj}
    {g : Nat} {caps : List AV} {f : Operand} {xs : List Operand} {ats : Array TypeId} (hw : wantedA ops t o = some true) (hd : o.dst = none) (hop : o.op = .defer { callee := .value f, args := ⟨xs⟩, argTypes := ats }) (hf : evalA E.G t f = .func g caps)
    (hgf : ∃ gn code, E.P.funcs[g]? = some gn ∧ gn.body = some code ∧ (gn.name == "runtime.NumGoroutine") = false)
    (hk : WpA E none nt rest (defK E rs H0 R g (evalL E.G t xs ++ caps)) t H) :
    WpQO E.bare nt ops [o] (Exit.then (rest.wpIn (Fc none) 0 E.P (bodyPostM Fence.wide 0 E.P fn (PostC E.G c0 R))) (bodyPostM Fence.wide 0 E.P fn (PostC E.G c0 R))) c0 t H := by
  subst hnt
  refine ⟨fun c a e1 e2 e3 e4 e5 => ?_⟩
  have e3 : Ok E.G c := e3
  have hfr := eval_rel e3 e4 f
  rw [hf] at hfr
  generalize hv : a.eval f = v at hfr
  cases hfr with
  | func ws hl hr =>
    have hargs := (evalL_rel e3 e4 xs).append (bs := caps) (us := ws) ⟨hl, hr⟩
    have hrun : (execOp a.eval o).run E.P c.w = .ok (.defer { target := .fn (.func g) ws.toArray, args := (xs.map a.eval).toArray }) c.w := by
      simp [execOp, hop, resolve, hv, Deferred.ofValue]
    simp only [wpListIn, wanted_eq e4 hw, if_true]
    refine ⟨fun f _ => Fc_fn none f, ?_⟩
    rw [Fc_round, Oper.semAt_none]
    show o.uponIn (Fc none) 0 E.P a _ _ ((execOp a.eval o).run E.P c.w)
    rw [hrun, Oper.uponIn_defer, hd]
    obtain ⟨D, d1, dfl, d2, ds, d3⟩ := e5
    have hD : D = [] := dfl rfl
    subst hD
    have d1 : a.defers = [] := d1
    let dd : Deferred := { target := .fn (.func g) ws.toArray, args := (xs.map a.eval).toArray }
    have hbody := hk.out (c0, [dd]) c c { tmps := a.tmps, defers := dd :: a.defers } (Ext.refl c) e2 e3 ⟨e4.size, e4.rel⟩ ⟨[], by rw [d1]; rfl, fun _ => rfl, List.nodup_nil, ds, by simp⟩
    show rest.wpIn (Fc none) 0 E.P _ _ _
    refine wpIn_mono hbody ?_
    rintro e a2 w2 ⟨ι, H', t', x, h1, h2, h3, h4, h5, h6⟩
    obtain ⟨D2, g1, _, g2, gs, g3⟩ := h4
    obtain ⟨gn, gcode, hg1, hg2, hg3⟩ := hgf
    let Q : Cfg → Prop := fun c' => Ext c0 c' ∧ Ok E.G c' ∧ SR c' fn.ntmps t' a2 ∧ c'.H = H' ∧ ∀ v u, RelV ⟨ι, H', w2⟩ v u → RelV c' v u
    have hQ0 : Q ⟨ι, H', w2⟩ := ⟨e1.trans h1, h2, h3, rfl, fun _ _ h => h⟩
    have hQ : ∀ c' b, Q c' → c'.w.heap[b]? = some (.deferred (some [])) → c0.w.heap.size ≤ b → (∀ (id : Nat) o, c'.H[id]? = some o → o.live = true → c'.ι id ≠ some b) → Q (c'.putBlock b (.deferred none)) := by
      rintro c' b ⟨q1, q2, q3, q4, q5⟩ hb hle hlive
      have hm := Ext0.putBlock (c := c') (.deferred none) hb
      exact ⟨q1.putBlock hb hle, ⟨q2.hr.putBlock hb hlive, fun g cs hg => (q2.glob g cs hg).mono hm, fun g cs hg h2 => (q2.gblk g cs hg h2).putBlock hb⟩, ⟨q3.size, fun i => (q3.rel i).mono hm⟩, q4, fun v u hv => (q5 v u hv).mono hm⟩
    have hfin : ∀ (pv : Option AV) (u : FrameMode), u ≠ .run → (∀ c', Q c' → ModeR c' pv u) → DefA E g (evalL E.G t xs ++ caps) H' pv (fun r H'' => r = pv.isSome ∧ retK E rs H0 R .ret t' H'') → LeavesInM Fence.wide 0 E.P fn a2.tmps (PostC E.G c0 R) a2.defers u w2 := by
      intro pv u hu hm hdef
      rw [g1]
      refine leaves_marksT (c0 := c0) hQ u hu ?_ D2 ⟨ι, H', w2⟩ g2 g3 hQ0
      rintro c' ⟨q1, q2, q3, q4, q5⟩
      have hargs' : RelL c' (evalL E.G t xs ++ caps) (xs.map a.eval ++ ws) := ⟨hargs.1, fun i x v hx hv => q5 _ _ ((hargs.2 i x v hx hv).mono h1.toExt0)⟩
      obtain ⟨_, hcall⟩ := hdef.out c' _ u q4 q2 hargs' (hm c' ⟨q1, q2, q3, q4, q5⟩)
      refine ⟨hu, .inr ⟨fun h => (by cases h), .func g, ws.toArray, g, (xs.map a.eval ++ ws).toArray, rfl, ?_, fun _ _ => trivial, ?_⟩⟩
      · have := run_callFunc_body (P := E.P) (vs := (xs.map a.eval ++ ws).toArray) (w := c'.w) hg1 hg2 hg3
        simpa [invoke, dd] using this
      · refine hcall.mono ?_
        rintro e u' w' ⟨⟨v, rfl⟩, ι3, H3, r, k1, k2, ⟨k3, k4⟩, k5, k6⟩
        show LeavesInM _ _ _ _ _ _ [] (settle u') w'
        have hset : settle u' = .returning := by
          cases pv with
          | none =>
            have : u' = u := k5 k3
            rw [this, hm c' ⟨q1, q2, q3, q4, q5⟩]
            rfl
          | some pv =>
            obtain ⟨x, _, hx⟩ := k6 k3
            rw [hx]
            rfl
        rw [hset]
        exact ret_leaves hrs hH0 ho0 (c' := ⟨ι3, H3, w'⟩) (q1.trans k1) k2 (q3.mono k1) k4
    cases e with
    | normal => cases x <;> first | exact h5.elim | exact hfin none .returning (by simp) (fun _ _ => rfl) h6
    | ret => cases x <;> first | exact h5.elim | exact hfin none .returning (by simp) (fun _ _ => rfl) h6
    | exit id => cases x <;> first | exact h5.elim | exact h6.elim
    | goto l => cases x <;> exact h5.elim
    | outgrown => cases x <;> exact h5.elim
    | panic chain =>
      cases x <;> try exact h5.elim
      obtain ⟨v, rfl, hrv⟩ := h5
      exact hfin (some _) _ (by simp) (fun c' hq => ⟨v, rfl, hq.2.2.2.2 _ _ hrv⟩) h6

theorem DefA.mono {E : Env} {g : FuncId} {args : List AV} {H : List AObj} {pv : Option AV} {R R' : Bool → List AObj → Prop} (h : DefA E g args H pv R) (hr : ∀ r H', R r H' → R' r H') : DefA E g args H pv R' :=
  ⟨fun c vs u e1 e2 e3 e4 => ⟨(h.out c vs u e1 e2 e3 e4).1, (h.out c vs u e1 e2 e3 e4).2.mono fun _ _ _ ⟨k1, ι, H', r, k2, k3, k4, k5, k6⟩ => ⟨k1, ι, H', r, k2, k3, hr _ _ k4, k5, k6⟩⟩⟩
end Go.Gp

/- Interfaces held against nil. -/
namespace Go.Gp
open Go.RowKit
set_option linter.unusedVariables false
set_option linter.unusedSimpArgs false

theorem run_eqIn_iface_nil {P : Program} (w : World) (d : Nat) {ty : TypeId} {ms : Array (String × TypeId)} (h : P.underlying ty = some (.interface ms)) (tt : TypeId) (vv : Value) : (Op.equalIn (d + 1) ty (.iface tt vv) .nilIface).run P w = .ok false w := by
  simp [Op.equalIn, underlying, program, Sem.run_bind, Sem.run, h, Result.andThen]
theorem run_eqIn_nil_nil {P : Program} (w : World) (d : Nat) {ty : TypeId} {ms : Array (String × TypeId)} (h : P.underlying ty = some (.interface ms)) : (Op.equalIn (d + 1) ty .nilIface .nilIface).run P w = .ok true w := by
  simp [Op.equalIn, underlying, program, Sem.run_bind, Sem.run, h, Result.andThen]

section
variable {E : Env} {ro : Option Nat} {n : Nat} {K : Kont} {t : Slots} {H : List AObj} {ops : Array Oper} {o : Oper} {rest : List Oper} {d : Nat}

def nilA : AV → Option Bool
  | .nili => some true
  | .iface _ _ => some false
  | _ => none

theorem P1.ifaceNil {ty : Nat} {x : Operand} {yt : TypeId} {b : Bool} {i : TI} (neg : Bool) (hop : o.op = .binOp (bif neg then .neq else .eql) ty x (.const .nilIface) yt) (hi : lookT E.T ty = some i) (hd : i.d = .iface)
    (hx : nilA (evalA E.G t x) = some b) : P1 E n H H o t (.bool (neg ^^ b)) :=
  .still (fun cc e => by rw [hop] at e; cases e) (fun c a hH ho sr => by
    have hr := eval_rel ho sr x
    obtain ⟨u, h1, h2⟩ := (Env.ti hi).u
    rw [hd] at h2
    obtain ⟨ms, rfl⟩ := h2
    have hv : (a.eval x = .nilIface ∧ b = true) ∨ (∃ tt vv, a.eval x = .iface tt vv ∧ b = false) := by
      generalize evalA E.G t x = q at hx hr
      generalize a.eval x = vq at hr
      cases hr <;> simp [nilA] at hx
      · exact .inr ⟨_, _, rfl, hx⟩
      · exact .inl ⟨rfl, hx⟩
    refine ⟨.bool (neg ^^ b), ?_, .bool⟩
    have h3 : a.eval (.const .nilIface) = .nilIface := rfl
    have heq : ∀ v, v = a.eval x → (Op.equal ty v .nilIface).run E.P c.w = .ok b c.w := by
      rintro v rfl
      rcases hv with ⟨hv, rfl⟩ | ⟨tt, vv, hv, rfl⟩
      · rw [hv]; exact run_eqIn_nil_nil c.w 9999 h1
      · rw [hv]; exact run_eqIn_iface_nil c.w 9999 h1 tt vv
    have hg : ∀ op, (eqGuard op ty x (.const .nilIface) (a.eval x) .nilIface).run E.P c.w = .ok () c.w := fun op => by
      rcases hv with ⟨hv, rfl⟩ | ⟨tt, vv, hv, rfl⟩
      · rw [hv]; cases op <;> simp [eqGuard]
      · rw [hv]; cases op <;> simp [eqGuard]
    cases neg with
    | false =>
      simp only [execOp, hop, cond_false, h3, Sem.run_bind, hg, Result.andThen_ok]
      have : (binOp .eql ty (a.eval x) .nilIface).run E.P c.w = .ok (.bool b) c.w := by
        have : binOp .eql ty (a.eval x) .nilIface = (do pure (Value.bool (← Op.equal ty (a.eval x) .nilIface)) : Sem Value) := by
          rcases hv with ⟨hv, rfl⟩ | ⟨tt, vv, hv, rfl⟩ <;> rw [hv] <;> rfl
        rw [this, Sem.run_bind, heq _ rfl]; rfl
      rw [this]; simp
    | true =>
      simp only [execOp, hop, cond_true, h3, Sem.run_bind, hg, Result.andThen_ok]
      have : (binOp .neq ty (a.eval x) .nilIface).run E.P c.w = .ok (.bool (!b)) c.w := by
        have : binOp .neq ty (a.eval x) .nilIface = (do pure (Value.bool (!(← Op.equal ty (a.eval x) .nilIface))) : Sem Value) := by
          rcases hv with ⟨hv, rfl⟩ | ⟨tt, vv, hv, rfl⟩ <;> rw [hv] <;> rfl
        rw [this, Sem.run_bind, heq _ rfl]; rfl
      rw [this]; simp)
end
end Go.Gp

/- The built-in copy, from a string into cells of one's own. -/
namespace Go.Gp
open Go.RowKit
set_option linter.unusedVariables false
set_option linter.unusedSimpArgs false

theorem TrOk.app {H L L' : List AObj} (h : ∀ (j : Nat) o, L'[j]? = some o → L[j]? = some o ∨ OBd (H ++ L).length o) : TrOk (H ++ L) (H ++ L') := fun i o hi => by
  rcases Nat.lt_or_ge i H.length with hlt | hge
  · rw [List.getElem?_append_left hlt] at hi ⊢; exact .inl hi
  · rw [List.getElem?_append_right hge] at hi ⊢
    rcases h _ o hi with h | h
    · exact .inl h
    · exact .inr h

section
variable {E : Env} {ro : Option Nat} {n : Nat} {K : Kont} {t : Slots} {H L : List AObj} {ops : Array Oper} {o : Oper} {rest : List Oper} {d : Nat}

section
variable {ids : List Nat} {cl : List Nat} {k : Nat} {Kc : Slots → List AObj → Prop}
theorem LexH.appR3 {ty tx e z j : Nat} {i ix : TI} {p q : Operand} {xs ys : List (List AV)} (hw : wantedA ops t o = some true) (hd : o.dst = some d) (hdn : Nat.blt d n = true) (hc : cl.getD k 2 = 3)
    (hop : o.op = .call { callee := .builtin .append, args := ⟨[p, q]⟩, argTypes := ⟨[ty, tx]⟩ }) (hs : sliceOf E.T ty = some (e, i)) (hz : i.sz = z) (hx : lookT E.T tx = some ix) (hdd : ∀ k, ix.d ≠ .int k)
    (hb : Nat.blt 0 i.bytes = true) (hz0 : Nat.blt 0 z = true) (hzs : Nat.beq i.zero.cells.size z = true) (hp : evalA E.G t p = .sl (.row H.length j) z xs) (hL : L[j]? = some (.tail xs.length z)) (hq : srcA z (evalA E.G t q) = some ys) (hone : ∀ y ∈ ys, ∀ a ∈ y, a.one = true)
    (hfit : (xs.length + ys.length) * i.bytes ≤ 140737488355328) (hX : Like ids (H ++ L) (H ++ L.set j (.tail (xs ++ ys).length z)))
    (hk : LexH E ro n ids ops cl Kc rest (k + 1) ((d, .sl (.row H.length j) z (xs ++ ys)) :: t) (H ++ L.set j (.tail (xs ++ ys).length z))) : LexH E ro n ids ops cl Kc (o :: rest) k t (H ++ L) :=
  .p3 hw hd hdn hc hX (.appR hop hs hz hx hdd hb hz0 hzs (by rw [evalA_cut (by rw [hop]; simp [Op.operands, Call.operands])]; exact hp) hL (by rw [evalA_cut (by rw [hop]; simp [Op.operands, Call.operands])]; exact hq) hone hfit) hk
end
end
end Go.Gp



/- Allocations and first appends inside statements whose order is open. -/
namespace Go.Gp
open Go.RowKit
set_option linter.unusedVariables false
set_option linter.unusedSimpArgs false

section
variable {E : Env} {ro : Option Nat} {n : Nat} {K : Kont} {t : Slots} {H L : List AObj} {ops : Array Oper} {o : Oper} {rest : List Oper} {d : Nat} {ids : List Nat} {cl : List Nat} {k : Nat} {Kc : Slots → List AObj → Prop}

theorem P1.alloc {ty : Nat} {i : TI} {cs : List AV} (hop : o.op = .alloc ty) (hi : lookT E.T ty = some i) (hc : zeroA i = some cs) : P1 E n (H ++ L) (H ++ (L ++ [.cells cs])) o t (.ptr H.length L.length 0) :=
  ⟨fun cc e => (by rw [hop] at e; cases e), fun c a hH ho s => by
    have hr := cellsA_rel (constA_rel c i.zero) hc
    have h1 := objRel_new ho.hr hr ty
    have h2 := Ext.newObj c (.cells cs) (.cells i.zero.cells ty) ho.hr
    have h3 : HR (c.newObj (.cells cs) (.cells i.zero.cells ty)) := HR.newObj ho.hr (by simpa using h1)
    have h4 := box_new ho.hr cs (.cells i.zero.cells ty) (m := H.length) (j := L.length) (by rw [hH]; simp)
    have h5 : c.H ++ [.cells cs] = H ++ (L ++ [.cells cs]) := by rw [hH]; simp
    unfold Cfg.newObj at h2 h3 h4
    rw [h5] at h2 h3 h4
    refine ⟨.pointer (some ⟨c.w.heap.size, 0, none⟩), _, _, ?_, h2, h3, h4⟩
    simp [execOp, hop, Instr.alloc, run_zeroValue hi, newVar, run_newRow]⟩

theorem LexH.alloc3 {ty : Nat} {i : TI} (cs : List AV) (hw : wantedA ops t o = some true) (hd : o.dst = some d) (hdn : Nat.blt d n = true) (hcl : cl.getD k 2 = 3) (hop : o.op = .alloc ty) (hi : lookT E.T ty = some i) (hc : zeroA i = some cs)
    (hk : LexH E ro n ids ops cl Kc rest (k + 1) ((d, .ptr H.length L.length 0) :: t) (H ++ (L ++ [.cells cs]))) : LexH E ro n ids ops cl Kc (o :: rest) k t (H ++ L) :=
  .p3 hw hd hdn hcl Like.app (.alloc hop hi hc) hk

end

end Go.Gp

/- Loops over states, where a round leaves things behind. -/
namespace Go.Gp
open Go.RowKit
set_option linter.unusedVariables false
set_option linter.unusedSimpArgs false

def goOnA {α : Type} (T : α → Slots) (Hf : α → List AObj) (ok : α → Prop) (me : α → Nat) (a : α) (K : Kont) : Kont
  | .normal, t', H' => ∃ a', ok a' ∧ me a' < me a ∧ Agree (T a') t' ∧ ∃ L, H' = Hf a' ++ L
  | x, t', H' => K x t' H'

theorem WpA.loopA {α : Type} {E : Env} {ro : Option Nat} {n : Nat} {K : Kont} {t : Slots} {H : List AObj} {body : Code} (T : α → Slots) (Hf : α → List AObj) (ok : α → Prop) (me : α → Nat) (a0 : α) (h0 : ok a0) (hT : Agree (T a0) t) (hH : H = Hf a0)
    (hl : ∀ a a', (Hf a').length = (Hf a).length) (htr : ∀ a a', ok a → ok a' → TrOk (Hf a) (Hf a')) (hbd : ∀ a a', ok a' → BdS (Hf a).length (T a')) (hT' : ∀ a, Agree (T a) (T a))
    (hr : ∀ a, ok a → WpA E ro n body (goOnA T Hf ok me a K) (T a) (Hf a)) : WpA E ro n (.loop body) K t H := by
  refine WpA.loopS (α := α) T Hf ok me a0 h0 hT hH fun a ha => WpA.scope ((hr a ha).mono fun x t' H' h => ?_)
  cases x with
  | normal =>
    obtain ⟨a', h1, h2, h3, L, rfl⟩ := h
    exact .inr ⟨Hf a', L, T a', rfl, hl a a', htr a a' ha h1, h3, hbd a a' h1, fun v e => (by cases e), a', h1, h2, hT' a', rfl⟩
  | exit i => exact .inl h
  | ret => exact .inl h
  | panic v => exact .inl h
theorem Sub.row {m q m' q' z : Nat} {xs : List (List AV)} (h : m + q = m' + q') : Sub (.sl (.row m q) z xs) (.sl (.row m' q') z xs) := fun c x hx => by
  cases hx with
  | sl vs hl hc hz ht hf hr =>
    refine .sl vs hl hc hz ?_ hf hr
    simp only [tagOk] at ht ⊢
    rw [← h]
    exact ht

/-- A slice of a slice, the cells named. -/
theorem WpOps.sliceE {E : Env} {ro : Option Nat} {n : Nat} {K : Kont} {t : Slots} {H : List AObj} {ops : Array Oper} {o : Oper} {rest : List Oper} {d ty e z : Nat} {j : TI} {x : Operand} {lo hi : Option Operand} {tg : Tag} {xs : List (List AV)} (p q : Nat) (ys : List (List AV)) (hw : wantedA ops t o = some true) (hd : o.dst = some d) (hdn : Nat.blt d n = true) (hop : o.op = .slice ty x lo hi none) (hs : sliceOf E.T ty = some (e, j)) (hx : evalA E.G t x = .sl tg z xs) (hz : j.sz = z)
    (hlo : BndOk E.G t 0 p lo) (hhi : BndOk E.G t xs.length q hi) (hpq : p ≤ q) (hq : q ≤ xs.length) (hy : (xs.take q).drop p = ys)
    (hk : WpOps E ro n ops rest K ((d, .sl .no z ys) :: t) H) : WpOps E ro n ops (o :: rest) K t H := by
  subst hy
  exact .slice p q hw hd hdn hop hs hx hz hlo hhi hpq hq hk
end Go.Gp

/- Boxes that are laid at a place kept for them. -/
namespace Go.Gp
open Go.RowKit
set_option linter.unusedVariables false
set_option linter.unusedSimpArgs false

section
variable {E : Env} {ro : Option Nat} {n : Nat} {K : Kont} {t : Slots} {H L : List AObj} {ops : Array Oper} {o : Oper} {rest : List Oper} {d : Nat} {ids : List Nat} {cl : List Nat} {k : Nat} {Kc : Slots → List AObj → Prop}

theorem LexH.p5 {H' : List AObj} {av : AV} (id : Nat) (ob : AObj) (hw : wantedA ops t o = some true) (hd : o.dst = some d) (hdn : Nat.blt d n = true) (hc : cl.getD k 2 = 5) (hid : id ∉ ids) (hk0 : Kept H id) (h : ∀ H0, Kept H0 id → P1 E n H0 (H0.set id ob) o (cutT (o.looksAt ops) t) av)
    (hk : LexH E ro n ids ops cl Kc rest (k + 1) ((d, av) :: t) (H.set id ob)) : LexH E ro n ids ops cl Kc (o :: rest) k t H :=
  .cons av (H.set id ob) ⟨dst_some hd hdn, .inl ⟨hw, by rw [hc]; exact ⟨id, ob, rfl, hid, hk0, fun H0 h0 => (h H0 h0).does⟩⟩⟩ (by rw [hd]; exact hk)

/-- A call that lays things behind all others. -/
theorem LexH.call6 {g : Nat} {caps : List AV} {f : Operand} {xs : List Operand} {ats : Array TypeId} {r : AV} (X : List AObj)
    (hw : wantedA ops t o = some true) (hd : o.dst = some d) (hdn : Nat.blt d n = true) (hcl : cl.getD k 2 = 6) (hop : o.op = .call { callee := .value f, args := ⟨xs⟩, argTypes := ats }) (hf : evalA E.G t f = .func g caps)
    (hc : ∀ H0 : List AObj, H0.length = (H ++ L).length → CallsA E g (evalL E.G t xs ++ caps) H0 (fun x H1 => H1 = H0 ++ X ∧ x = .ret r)) (hX : ∀ x ∈ X, ∀ z, x ≠ .tail 0 z)
    (hk : LexH E ro n ids ops cl Kc rest (k + 1) ((d, r) :: t) (H ++ (L ++ X))) : LexH E ro n ids ops cl Kc (o :: rest) k t (H ++ L) :=
  .cons r (H ++ (L ++ X)) ⟨dst_some hd hdn, .inl ⟨hw, by rw [hcl]; exact ⟨X, (List.append_assoc _ _ _).symm, hX, fun H0 h0 => doesH_call hop hf (hc H0 h0)⟩⟩⟩ (by rw [hd]; exact hk)
end
/-- Less is said of each cell of a slice. -/
def SubLL : List (List AV) → List (List AV) → Prop
  | [], [] => True
  | u :: us, v :: vs => SubL u v ∧ SubLL us vs
  | _, _ => False
theorem SubLL.length : ∀ {us vs : List (List AV)}, SubLL us vs → us.length = vs.length
  | [], [], _ => rfl
  | _ :: _, _ :: _, h => by simp [SubLL.length h.2]
  | [], _ :: _, h => h.elim
  | _ :: _, [], h => h.elim
theorem SubLL.get : ∀ {us vs : List (List AV)} {i : Nat} {v : List AV}, SubLL us vs → vs[i]? = some v → ∃ u, us[i]? = some u ∧ SubL u v
  | u :: us, v :: vs, 0, b, h, h2 => by simp at h2; subst h2; exact ⟨u, rfl, h.1⟩
  | u :: us, v :: vs, i + 1, b, h, h2 => by
    have h2' : vs[i]? = some b := by simpa using h2
    obtain ⟨x, h3, h4⟩ := SubLL.get h.2 h2'
    exact ⟨x, by simpa using h3, h4⟩
  | [], [], _, _, _, h1 => by simp at h1
  | [], _ :: _, _, _, h, _ => h.elim
  | _ :: _, [], _, _, h, _ => h.elim
theorem Sub.elems {t : Tag} {z : Nat} {us vs : List (List AV)} (h : SubLL us vs) : Sub (.sl t z us) (.sl t z vs) := fun c x hx => by
  cases hx with
  | sl ws hl hc hz ht hf hr =>
    refine .sl ws (h.length.symm.trans hl) hc (fun y hy => ?_) ht hf (fun i j l e h1 h2 => ?_)
    · obtain ⟨i, hi⟩ := List.getElem?_of_mem hy
      obtain ⟨u, hu, hs⟩ := h.get hi
      rw [← hs.length]
      exact hz u (List.mem_of_getElem? hu)
    · obtain ⟨u, hu, hs⟩ := h.get h1
      have hj : j < u.length := by rw [hs.length]; exact (List.getElem?_eq_some_iff.1 h2).1
      exact hs.get (List.getElem?_eq_getElem hj) h2 c _ (hr i j u _ hu (List.getElem?_eq_getElem hj))
end Go.Gp
