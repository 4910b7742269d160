/- Part of a proof: GpA24, GpA25, GpA26, GpA27, GpA28, GpA29, GpA30, GpA31, GpA32 -/
import Derived.Test.YtmacdhglhafldaaDoorK9
import Derived.Laws.Cover3
import Derived.RangeFuncIn



/- Boxes that are written no more. -/
namespace Go.Gp
open Go.RowKit
set_option linter.unusedVariables false
set_option linter.unusedSimpArgs false

/-- The box is given up: what it holds is frozen. -/
def Cfg.kill (c : Cfg) (id : Nat) : Cfg := { c with H := c.H.set id .dead }

theorem kill_wr {c : Cfg} {id : Nat} {p : Addr} (hid : id < c.H.length) (h : Wr (c.kill id) p) : Wr c p := by
  obtain ⟨k, x, h1, h2, h3⟩ := h
  rcases (set_get hid).1 h1 with ⟨rfl, rfl⟩ | ⟨_, h1⟩
  · exact h3.elim
  · exact ⟨k, x, h1, h2, h3⟩

theorem Ext.kill {c : Cfg} {id : Nat} {cs : List AV} (h : HR c) (hH : c.H[id]? = some (.cells cs)) : Ext c (c.kill id) := by
  have hid := get_lt hH
  exact {
    fz := fun p v _ hf => ⟨hf.1, fun hw => hf.2 (kill_wr hid hw)⟩
    bx := fun k b ⟨x, h1, h2, h3⟩ => by
      by_cases hk : k = id
      · exact ⟨.dead, (set_get hid).2 (.inl ⟨hk, rfl⟩), rfl, h3⟩
      · exact ⟨x, (set_get hid).2 (.inr ⟨hk, h1⟩), h2, h3⟩
    tl := fun k n z hn => by
      have hk : k ≠ id := fun e => by subst e; rw [hH] at hn; cases hn
      exact .inr ⟨n, (set_get hid).2 (.inr ⟨hk, hn⟩), Nat.le_refl _, fun _ => ⟨rfl, fun b arr e hi ha => ⟨arr, ha, rfl⟩⟩⟩
    sz := fun _ _ _ _ h => h
    dd := fun k ⟨x, h1, h2⟩ => by
      by_cases hk : k = id
      · exact ⟨.dead, (set_get hid).2 (.inl ⟨hk, rfl⟩), rfl⟩
      · exact ⟨x, (set_get hid).2 (.inr ⟨hk, h1⟩), h2⟩
    size := Nat.le_refl _
    os := rfl
    tape := rfl
    output := rfl
    hlen := by show _ ≤ (c.H.set id _).length; simp
    outer := fun b hb _ => rfl
    nw := fun k b x hx hl hi hb => by
      rcases (set_get hid).1 hx with ⟨rfl, rfl⟩ | ⟨_, hx⟩
      · cases hl
      · exact ⟨_, x, hx, hl, hi⟩ }

theorem HR.kill {c : Cfg} {id : Nat} {cs : List AV} (h : HR c) (hH : c.H[id]? = some (.cells cs)) : HR (c.kill id) := by
  have hid := get_lt hH
  exact {
    dom := fun k b hk => by show k < (c.H.set id .dead).length; simp; exact h.dom k b hk
    ex := fun k x hk hbx hlx => by
      rcases (set_get hid).1 hk with ⟨rfl, rfl⟩ | ⟨_, hk⟩
      · cases hlx
      · exact h.ex k x hk hbx hlx
    obj := fun k b x hk hik hlx => by
      rcases (set_get hid).1 hk with ⟨rfl, rfl⟩ | ⟨_, hk⟩
      · cases hlx
      · exact (h.obj k b x hk hik hlx).mono (Ext.kill h hH).toExt0 rfl
    inj := fun i j b x y h1 h2 l1 l2 i1 i2 => by
      rcases (set_get hid).1 h1 with ⟨rfl, rfl⟩ | ⟨_, g1⟩
      · cases l1
      · rcases (set_get hid).1 h2 with ⟨rfl, rfl⟩ | ⟨_, g2⟩
        · cases l2
        · exact h.inj i j b x y g1 g2 l1 l2 i1 i2
    bound := fun k b hk => h.bound k b hk }

/-- A slice over a box that is given up is a frozen slice. -/
theorem RelV.kill {c : Cfg} {m q off z len : Nat} {cs : List AV} {v : Value} (h : HR c) (hH : c.H[m + q]? = some (.cells cs)) (hle : off + len * z ≤ cs.length) (hr : RelV c (.os m q off z len) v) : RelV (c.kill (m + q)) (.sl .no z (chunkA z len (cs.drop off))) v := by
  have hid := get_lt hH
  have hx := Ext.kill h hH
  cases hr with
  | os hb hc =>
    rename_i b cap
    obtain ⟨o', g1, g2, g3⟩ := hb
    obtain ⟨arr, e, vs, h1, h2, h3, h4, h5⟩ := box_cells h hH g3
    have hcl := chunk_length z len (cs.drop off)
    obtain ⟨f1, f2⟩ : (chunkA z len ((cs.drop off).take (len * z))).flatten = (cs.drop off).take (len * z) ∧ ∀ x ∈ chunkA z len ((cs.drop off).take (len * z)), x.length = z :=
      chunk_flatten z len _ (by rw [List.length_take, List.length_drop]; omega)
    have hct : ∀ (m : Nat) (l : List AV), chunkA z m (l.take (m * z)) = chunkA z m l := by
      intro m
      induction m with
      | zero => intro l; rfl
      | succ m ih =>
        intro l
        have hm : (m + 1) * z = z + m * z := by rw [Nat.add_mul]; omega
        simp only [chunkA]
        rw [hm, List.take_take, Nat.min_eq_left (by omega), List.drop_take, Nat.add_sub_cancel_left, ih]
    rw [hct] at f1 f2
    have hvl : vs.length = cs.length := h3.1.symm
    have hdr := (h3.drop off).take (len * z)
    refine .sl (fun i j => (vs[off + (i * z + j)]?).getD undef) hcl hc f2 trivial (fun i j hi hj => ?_) (fun i j l y k1 k2 => ?_)
    · have hlt : i * z + j < len * z := by
        calc i * z + j < i * z + z := by omega
          _ = (i + 1) * z := by rw [Nat.add_mul]; omega
          _ ≤ len * z := Nat.mul_le_mul_right _ hi
      have hv : vs[off + (i * z + j)]? = some (vs[off + (i * z + j)]'(by omega)) := List.getElem?_eq_getElem (by omega)
      refine ⟨⟨b, off, none⟩, rfl, rfl, ?_⟩
      have e2 : (⟨b, off, none⟩ : Addr).add (i * z + j) = ⟨b, off + (i * z + j), none⟩ := by
        unfold Addr.add
        split
        · rename_i h0; rw [h0]; rfl
        · rfl
      rw [e2, hv]
      refine ⟨cell?_of h1 (h4 _ _ hv), ?_⟩
      rintro ⟨k, x, w1, w2, w3⟩
      rcases (set_get hid).1 w1 with ⟨rfl, rfl⟩ | ⟨hne, w1⟩
      · exact w3
      · have hl1 : x.live = true := by cases x <;> first | rfl | exact w3.elim
        exact hne (h.inj k (m + q) b _ _ w1 hH hl1 rfl w2 g3)
    · have k3 := flatten_get f2 k1 k2
      rw [f1, List.getElem?_take] at k3
      split at k3
      · rw [List.getElem?_drop] at k3
        obtain ⟨u, hu, hru⟩ := h3.get k3
        simp only [hu, Option.getD_some]
        exact hru.mono hx.toExt0
      · cases k3

section
variable {E : Env} {ro : Option Nat} {n : Nat} {K : Kont} {t : Slots} {H L : List AObj}

/-- .. one that lies in another box of its own. -/
theorem WpA.freezeC {code : Code} {i q j off z len : Nat} {cs ds : List AV} (hI : L[i]? = some (.cells ds)) (hq : ds[q]? = some (.os H.length j off z len)) (hL : L[j]? = some (.cells cs)) (hij : Nat.beq i j = false) (hle : off + len * z ≤ cs.length)
    (h : WpA E ro n code K t (H ++ (L.set j .dead).set i (.cells (ds.set q (.sl .no z (chunkA z len (cs.drop off))))))) : WpA E ro n code K t (H ++ L) := by
  refine ⟨?_⟩
  intro cd c0 c a e1 e2 e3 e4 e5
  have hne : i ≠ j := fun e => by subst e; simp at hij
  have hcs : c.H[H.length + j]? = some (.cells cs) := by rw [e2]; exact app_get rfl hL
  have hds : c.H[H.length + i]? = some (.cells ds) := by rw [e2]; exact app_get rfl hI
  have hx := Ext.kill e3.hr hcs
  have hh := e3.hr.kill hcs
  have hds' : (c.kill (H.length + j)).H[H.length + i]? = some (.cells ds) := (set_get (get_lt hcs)).2 (.inr ⟨by omega, hds⟩)
  obtain ⟨bb, hbb⟩ := e3.hr.ex _ _ hds rfl rfl
  obtain ⟨arr, e, o1, o2, o3⟩ := e3.hr.obj _ bb _ hds hbb rfl
  have hhx : Ext (c.kill (H.length + j)) ((c.kill (H.length + j)).upd (H.length + i) (.cells (ds.set q (.sl .no z (chunkA z len (cs.drop off))))) (c.kill (H.length + j)).w) :=
    Ext.upd (o := .cells ds) hh hds' hbb rfl rfl rfl rfl (fun _ => trivial) (Turned.refl _ _)
  have hhr : HR ((c.kill (H.length + j)).upd (H.length + i) (.cells (ds.set q (.sl .no z (chunkA z len (cs.drop off))))) (c.kill (H.length + j)).w) := by
    refine HR.upd hh hds' hbb rfl hhx (Turned.refl _ _) ⟨arr, e, o1, by simpa using o2, fun k a0 ha => ?_⟩
    rw [List.getElem?_set] at ha
    by_cases hk : q = k
    · subst hk
      rw [if_pos rfl, if_pos (List.getElem?_eq_some_iff.1 hq).1] at ha
      injection ha with ha
      subst ha
      obtain ⟨v, hv, hrv⟩ := o3 q _ hq
      exact ⟨v, hv, (RelV.kill e3.hr hcs hle hrv).mono hhx.toExt0⟩
    · rw [if_neg hk] at ha
      obtain ⟨v, hv, hrv⟩ := o3 k _ ha
      exact ⟨v, hv, (hrv.mono hx.toExt0).mono hhx.toExt0⟩
  have hxx := hx.trans hhx
  refine h.out cd c0 ((c.kill (H.length + j)).upd (H.length + i) (.cells (ds.set q (.sl .no z (chunkA z len (cs.drop off))))) (c.kill (H.length + j)).w) a (e1.trans hxx) ?_ (e3.step hxx hhr) (e4.mono hxx) (e5.mono hxx rfl)
  show (c.H.set (H.length + j) .dead).set (H.length + i) _ = _
  rw [e2, set_app, set_app]
end
end Go.Gp

/- Appends whose outcome is the activation's own to write. -/
namespace Go.Gp
open Go.RowKit
set_option linter.unusedVariables false
set_option linter.unusedSimpArgs false

section
variable {E : Env} {ro : Option Nat} {n : Nat} {K : Kont} {t : Slots} {H L : List AObj} {ops : Array Oper} {o : Oper} {rest : List Oper} {d : Nat}

end

theorem Sub.os {m q m' q' off z len : Nat} (h : m + q = m' + q') : Sub (.os m q off z len) (.os m' q' off z len) := fun c x hx => by
  cases hx with
  | os hb hc => exact .os (by rw [← h]; exact hb) hc
theorem Sub.ptr {m q m' q' off : Nat} (h : m + q = m' + q') : Sub (.ptr m q off) (.ptr m' q' off) := fun c x hx => by
  cases hx with
  | ptr hb => exact .ptr (by rw [← h]; exact hb)

/-- An end that leaves all in sight. -/
theorem retK.all {E : Env} {rs : List ResultVar} {H L : List AObj} {R : AEnd → List AObj → Prop} {t : Slots} {x : AX} {as : List AV} {r : AV} (hx : x = .normal ∨ x = .ret) (h : resL L E.T t rs = some as)
    (hn : resN H.length t rs = rs.map (fun _ => H.length)) (hs : Sub (resV as) r) (hR : R (.ret r) (H ++ L)) : retK E rs H R x t (H ++ L) := by
  have h' : ∃ H2 L' as v, H ++ L = H2 ++ L' ∧ H2.length = H.length ∧ resL L' E.T t rs = some as ∧ resN H.length t rs = rs.map (fun _ => H.length) ∧ (∀ c x, RelV c (resV as) x → RelV c v x) ∧ RetR H R (.ret v) v (H ++ L) :=
    ⟨H, L, as, r, rfl, rfl, h, hn, hs, .all hR⟩
  rcases hx with rfl | rfl <;> exact h'
end Go.Gp

/- Function values that are called; loops over iterators. -/
namespace Go.Gp
open Go.RowKit
set_option linter.unusedVariables false
set_option linter.unusedSimpArgs false

theorem thenK.panic {K1 : Slots → List AObj → Prop} {K : Kont} {v : AV} {t : Slots} {H : List AObj} (h : K (.panic v) t H) : thenK K1 K (.panic v) t H := h
theorem blockK.panic {id : Nat} {K : Kont} {v : AV} {t : Slots} {H : List AObj} (h : K (.panic v) t H) : blockK id K (.panic v) t H := h

/-- Calling a function value. -/
def callVal (v : Value) (args : Array Value) : Sem Next := do
  let d ← Deferred.ofValue v args
  invoke d.target d.args

def UponV (P : Program) (Q : Ending → World → Prop) : Result Next → Prop
  | .ok (.enter f args) w => Calls P f args w Q
  | .ok (.value v) w => Q (.returned v) w
  | .ok (.round l f tmps assign body) w => RoundIn Fence.wide 0 P l f tmps assign body w Q
  | _ => False

/-- A function value, called with such arguments over such a heap, ends so. -/
structure AppA (E : Env) (fv : AV) (args : List AV) (H : List AObj) (R : AEnd → List AObj → Prop) : Prop where
  out : ∀ (c : Cfg) (v : Value) (vs : List Value), c.H = H → Ok E.G c → RelV c fv v → RelL c args vs → UponV E.P (PostC E.G c R) ((callVal v vs.toArray).run E.P c.w)

theorem PostC.mono {G : GEnv} {c : Cfg} {R R' : AEnd → List AObj → Prop} (hr : ∀ x H, R x H → R' x H) {e : Ending} {w : World} (h : PostC G c R e w) : PostC G c R' e w := by
  obtain ⟨ι, H, x, a1, a2, a3, a4⟩ := h
  exact ⟨ι, H, x, a1, a2, a3, hr x H a4⟩

theorem AppA.mono {E : Env} {fv : AV} {args : List AV} {H : List AObj} {R R' : AEnd → List AObj → Prop} (h : AppA E fv args H R) (hr : ∀ x H, R x H → R' x H) : AppA E fv args H R' := by
  refine ⟨?_⟩
  intro c v vs e1 e2 e3 e4
  have h' := h.out c v vs e1 e2 e3 e4
  unfold UponV at *
  split at h'
  · exact h'.mono fun e w => PostC.mono hr
  · exact PostC.mono hr h'
  · exact h'.mono fun e w => PostC.mono hr
  · exact h'.elim

theorem Fc_rounds {ro : Option Nat} {P : Program} {l : Nat} {f : FuncId} {tmps : Array Value} {assign body : Code} {w : World} {R : Ending → World → Prop} :
    RoundIn (Fc ro) 0 P l f tmps assign body w R ↔ RoundIn Fence.wide 0 P l f tmps assign body w R := by
  cases ro with
  | none => exact Iff.rfl
  | some k => exact Iff.rfl

section rules
variable {E : Env} {ro : Option Nat} {n : Nat} {K : Kont} {t : Slots} {H L : List AObj} {ops : Array Oper} {o : Oper} {rest : List Oper}

/-- A call of a function value. -/
theorem WpOps.callV {d : Nat} {fv : AV} {f : Operand} {xs : List Operand} {ats : Array TypeId} {R : AEnd → List AObj → Prop}
    (hw : wantedA ops t o = some true) (hd : o.dst = some d) (hdn : Nat.blt d n = true) (hop : o.op = .call { callee := .value f, args := ⟨xs⟩, argTypes := ats }) (hf : evalA E.G t f = fv)
    (hc : AppA E fv (evalL E.G t xs) H R)
    (hk : ∀ x H', R x H' → match x with | .ret r => WpOps E ro n ops rest K ((d, r) :: t) H' | .panic v => K (.panic v) t H') : WpOps E ro n ops (o :: rest) K t H := by
  refine ⟨?_⟩
  intro cd c0 c a e1 e2 e3 e4 e5
  have hnd : notDefer o := fun cc e => by rw [hop] at e; cases e
  have hfr := eval_rel e3 e4 f
  rw [hf] at hfr
  have hargs := evalL_rel e3 e4 xs
  have hcall := hc.out c _ _ e2 e3 hfr hargs
  have hrun : (execOp a.eval o).run E.P c.w = (callVal (a.eval f) (xs.map a.eval).toArray).run E.P c.w := by
    simp [execOp, hop, resolve, callVal]
  refine wpListIn_of (wanted_eq e4 hw) hnd ?_
  rw [hrun]
  have hpost : ∀ (e : Ending) (w' : World), PostC E.G c R e w' → (match e, w' with
      | .returned v, w'' => (wpListIn (Fc ro) 0 E.P ops (Post E.G n (cd, E.marks) c0 K) rest) (a.put o.dst v) w''
      | .panicked chain, w'' => (Post E.G n (cd, E.marks) c0 K) (.panic chain) a w''
      | .outgrown, _ => LetsOut (Post E.G n (cd, E.marks) c0 K)) := by
    rintro e w' ⟨ι', H', x, a1, a2, a3, a4⟩
    cases e with
    | returned v' =>
      cases x with
      | panic v => exact a3.elim
      | ret r =>
        show wpListIn _ _ _ _ _ _ (a.put o.dst v') w'
        rw [hd]
        exact (hk _ _ a4).out cd c0 ⟨ι', H', w'⟩ _ (e1.trans a1) rfl a2 ((e4.mono a1).put hdn a3) (e5.mono a1 rfl)
    | panicked chain =>
      cases x with
      | ret r => exact a3.elim
      | panic v =>
        have := hk _ _ a4
        exact ⟨ι', H', t, .panic v, e1.trans a1, a2, e4.mono a1, e5.mono a1 rfl, a3, this⟩
    | outgrown => cases x <;> exact a3.elim
  revert hcall
  cases (callVal (a.eval f) (xs.map a.eval).toArray).run E.P c.w with
  | halt x w => intro h; exact h.elim
  | ok nx w =>
    cases nx <;> intro hcall <;> try exact hcall.elim
    case value v' =>
      rw [Oper.uponIn_value]
      exact hpost (.returned v') w hcall
    case enter f' args' =>
      rw [Oper.uponIn_enter]
      refine ⟨fun h => (by rw [Fc_depth] at h; simp at h), ?_⟩
      rw [Fc_calls]
      exact Calls.mono hcall hpost
    case round l f' tmps assign body =>
      rw [Oper.uponIn_round]
      refine ⟨fun h => (by rw [Fc_depth] at h; simp at h), ?_⟩
      exact (Fc_rounds.2 hcall).mono hpost
end rules

/-! ### One round -/
def putPs : List Tmp → List AV → Slots → Slots
  | p :: ps, a :: as, t => putPs ps as ((p, a) :: t)
  | _, _, t => t

theorem SR.putPs {c : Cfg} {n : Nat} : ∀ {ps : List Tmp} {as : List AV} {vs : List Value} {t : Slots} {a : Act}, SR c n t a → (∀ p ∈ ps, p < n) → ps.length = as.length → RelL c as vs →
    SR c n (putPs ps as t) { a with tmps := (ps.zip vs).foldl (fun tm (x : Tmp × Value) => tm.setIfInBounds x.1 x.2) a.tmps }
  | [], as, vs, t, a, s, _, _, _ => by simpa [Gp.putPs] using s
  | p :: ps, [], vs, t, a, s, _, hl, _ => by simp at hl
  | p :: ps, x :: as, [], t, a, s, _, _, hr => by have := hr.1; simp at this
  | p :: ps, x :: as, v :: vs, t, a, s, hp, hl, hr => by
    have h1 : SR c n ((p, x) :: t) (a.put (some p) v) := s.put (by simpa using hp p List.mem_cons_self) hr.head
    have := SR.putPs (ps := ps) h1 (fun q hq => hp q (List.mem_cons_of_mem _ hq)) (by simpa using hl) hr.tail
    simpa [Gp.putPs, Act.put] using this

/-- The heap behind a round, but for the record. -/
def roundK (id : Nat) (r : Loop) (ts : Slots) (Hx : List AObj) (R : AEnd → List AObj → Prop) : Kont := fun x t2 H2 =>
  ∃ (st : LoopState) (pend : Option Code) (H1 L : List AObj), H2 = H1 ++ L ∧ H1.length = Hx.length ∧ H1[id]? = some (.loop { r with state := .busy } ts) ∧
    (∀ (i : Nat) o, i ≠ id → H1[i]? = some o → Hx[i]? = some o ∨ OBd Hx.length o) ∧
    (match x with
      | .normal => pend = none ∧ st = .ready ∧ R (.ret (.bool true)) (H1.set id (.loop { r with state := st, pending := pend } ts))
      | .ret => pend = some .ret ∧ st = .done ∧ R (.ret (.bool false)) (H1.set id (.loop { r with state := st, pending := pend } ts))
      | .exit i => pend = some (.exit i) ∧ st = .done ∧ R (.ret (.bool false)) (H1.set id (.loop { r with state := st, pending := pend } ts))
      | .panic _ => False)

theorem run_getLoop {P : Program} {w : World} {l : Nat} {r : Loop} (h : w.heap[l]? = some (.loop r)) : (Instr.getLoop l).run P w = .ok r w := by
  simp [Instr.getLoop, getObj, Sem.run_bind, Sem.run, h, Result.andThen]

theorem run_endRound {P : Program} {w : World} {l : Nat} {r : Loop} (h : w.heap[l]? = some (.loop r)) (j : Option Code) :
    (Instr.endRound l j).run P w = .ok (.bool j.isNone) { w with heap := w.heap.setIfInBounds l (.loop { r with state := if j.isNone then .ready else .done, pending := j }) } := by
  simp [Instr.endRound, Instr.getLoop, getObj, setObj, Sem.run_bind, Sem.run, h, Result.andThen]

theorem run_beginRound {P : Program} {w : World} {l : Nat} {r : Loop} (h : w.heap[l]? = some (.loop r)) (hr : r.state = .ready) :
    (Instr.beginRound l).run P w = .ok () { w with heap := w.heap.setIfInBounds l (.loop { r with state := .busy }) } := by
  simp [Instr.beginRound, Instr.getLoop, getObj, setObj, Sem.run_bind, Sem.run, h, Result.andThen, hr]

theorem turned_setObj (w : World) (b : Nat) (o : Obj) (hne : ∀ arr e fr, w.heap[b]? ≠ some (.cells arr e fr)) : Turned w { w with heap := w.heap.setIfInBounds b o } b :=
  ⟨rfl, rfl, rfl, by simp, fun k hk => by simp [Array.getElem?_setIfInBounds, Ne.symm hk], fun n ⟨arr, e, fr, h1, h2⟩ => absurd h1 (hne arr e fr)⟩

/-- A record is turned. -/
theorem loop_upd {c : Cfg} (h : HR c) {id l : Nat} {r r' : Loop} {ts : Slots} (hH : c.H[id]? = some (.loop r ts)) (hi : c.ι id = some l) (hr : r'.tmps = r.tmps) :
    Ext c (c.upd id (.loop r' ts) { c.w with heap := c.w.heap.setIfInBounds l (.loop r') }) ∧ HR (c.upd id (.loop r' ts) { c.w with heap := c.w.heap.setIfInBounds l (.loop r') }) := by
  obtain ⟨h1, h2⟩ := h.obj id l _ hH hi rfl
  have hne : ∀ arr e fr, c.w.heap[l]? ≠ some (.cells arr e fr) := fun arr e fr h' => by rw [h1] at h'; cases h'
  have hx := Ext.upd (o' := .loop r' ts) h hH hi rfl rfl rfl rfl (fun _ => trivial) (turned_setObj c.w l (.loop r') hne)
  refine ⟨hx, HR.upd h hH hi rfl hx (turned_setObj _ _ _ hne) ⟨?_, fun i => ?_⟩⟩
  · show (c.w.heap.setIfInBounds l (.loop r'))[l]? = _
    rw [Array.getElem?_setIfInBounds, if_pos rfl, if_pos (block_lt h1)]
  · rw [hr]; exact (h2 i).mono hx.toExt0

theorem AppA.round {E : Env} {m j : Nat} {r : Loop} {ts : Slots} {args : List AV} {Hx : List AObj} {R : AEnd → List AObj → Prop} {n : Nat} (ps : List Tmp)
    (hrec : Hx[m + j]? = some (.loop r ts)) (hst : r.state = .ready) (hn : r.tmps.size = n) (hps : r.params = ps.toArray) (hpl : ps.length = args.length) (hpn : ∀ p ∈ ps, p < n)
    (h : ∀ l, WpA E (some l) n r.assign (fun x t1 H1 => x = .normal ∧ H1[m + j]? = some (.loop r ts) ∧
      WpA E (some l) n r.body (roundK (m + j) r ts Hx R) t1 (H1.set (m + j) (.loop { r with state := .busy } ts))) (putPs ps args ts) Hx) : AppA E (.yld m j) args Hx R := by
  refine ⟨?_⟩
  intro c v vs e1 e2 e3 e4
  cases e3 with
  | yld hb =>
    rename_i l
    obtain ⟨o, ho, hbx, hι⟩ := hb
    have ho' : c.H[m + j]? = some (.loop r ts) := by rw [e1]; exact hrec
    obtain ⟨h1, h2⟩ := e2.hr.obj _ l _ ho' hι rfl
    have hlen : vs.length = ps.length := by rw [hpl, e4.1]
    have hrun : (callVal (.func (.yield l) #[] #[]) vs.toArray).run E.P c.w = .ok (.round l r.fn ((ps.zip vs).foldl (fun tm (x : Tmp × Value) => tm.setIfInBounds x.1 x.2) r.tmps) r.assign r.body) c.w := by
      simp only [callVal, Deferred.ofValue, invoke, Sem.run_bind, Sem.run_pure, Result.andThen_ok]
      simp only [Instr.yield, Sem.run_bind, Array.empty_append]
      rw [run_getLoop h1]
      simp only [Result.andThen_ok, hps]
      rw [if_neg (by simp [hlen])]
      simp only [Sem.run_pure, Sem.run_bind, Result.andThen_ok]
      have : (ps.toArray.zip vs.toArray) = (ps.zip vs).toArray := by simp
      rw [this]
      simp
    rw [hrun]
    show RoundIn Fence.wide 0 E.P l r.fn _ r.assign r.body c.w (PostC E.G c R)
    refine roundIn_of_wpIn trivial ?_
    have hsr : SR c n (putPs ps args ts) { tmps := (ps.zip vs).foldl (fun tm (x : Tmp × Value) => tm.setIfInBounds x.1 x.2) r.tmps, defers := [] } :=
      SR.putPs (a := { tmps := r.tmps, defers := [] }) ⟨hn, h2⟩ hpn hpl e4
    refine wpIn_mono ((h l).out (c, []) c c _ (Ext.refl c) e1 e2 hsr ⟨[], rfl, fun _ => rfl, List.nodup_nil, Nat.le_refl _, by simp⟩) ?_
    rintro e a1 w1 ⟨ι1, H1, t1, x1, k1, k2, k3, k4, k5, k6, k7, k8⟩
    subst k6
    cases e <;> try exact k5.elim
    have hι1 : ι1 (m + j) = some l := (k1.bx (m + j) l ⟨_, ho, hbx, hι⟩).choose_spec.2.2
    obtain ⟨h3, h4⟩ := k2.hr.obj (m + j) l _ k7 hι1 rfl
    refine ⟨_, run_beginRound h3 hst, ?_⟩
    obtain ⟨g1, g2⟩ := loop_upd (c := ⟨ι1, H1, w1⟩) (r' := { r with state := .busy }) k2.hr k7 hι1 rfl
    refine wpIn_mono (k8.out (c, []) c (Cfg.upd ⟨ι1, H1, w1⟩ (m + j) (.loop { r with state := .busy } ts) _) a1 (k1.trans g1) rfl (k2.step g1 g2) (k3.mono g1) (k4.mono g1 rfl)) ?_
    rintro e a2 w2 ⟨ι2, H2, t2, x2, q1, q2, q3, q4, q5, st, pend, G1, L, q6, q7, q8, q9, q10⟩
    subst q6
    have hlt : m + j < G1.length := get_lt q8
    have q8' : (G1 ++ L)[m + j]? = some (.loop { r with state := .busy } ts) := by rw [List.getElem?_append_left hlt]; exact q8
    have hι2 : ι2 (m + j) = some l := (q1.bx (m + j) l ⟨_, ho, hbx, hι⟩).choose_spec.2.2
    obtain ⟨h5, h6⟩ := q2.hr.obj (m + j) l _ q8' hι2 rfl
    have fin : ∀ (jmp : Option Code) (b : Bool), jmp.isNone = b → pend = jmp → st = (if jmp.isNone then .ready else .done) → R (.ret (.bool b)) (G1.set (m + j) (.loop { r with state := st, pending := pend } ts)) →
        ∃ v w', (Instr.endRound l jmp).run E.P w2 = .ok v w' ∧ PostC E.G c R (.returned v) w' := by
      rintro jmp b hb rfl rfl hR
      refine ⟨_, _, run_endRound h5 _, ?_⟩
      obtain ⟨u1, u2⟩ := loop_upd (c := ⟨ι2, G1 ++ L, w2⟩) (r' := { r with state := if pend.isNone then .ready else .done, pending := pend }) q2.hr q8' hι2 rfl
      have hx := q1.trans u1
      refine RetR.use hx e2 (q2.step u1 u2) (e := .ret (.bool b)) (v := .bool b) ?_ (fun c'' _ => by rw [hb]; exact RelV.bool)
      subst e1
      refine .cut (G1.set (m + j) (.loop { r with state := if pend.isNone then .ready else .done, pending := pend } ts)) L ?_ (by simpa using q7) ?_ .bool hR
      · show (G1 ++ L).set _ _ = _
        rw [List.set_append_left _ _ hlt]
      · intro i o hi
        by_cases hij : i = m + j
        · subst hij
          rw [List.getElem?_set_self hlt] at hi
          injection hi with hi
          subst hi
          have := (e2.hr.obd hrec).2.2.1 r ts rfl
          exact .inr ⟨fun cs e => (by cases e), fun es k e => (by cases e), fun r' t' e k => (by injection e with _ e; subst e; exact this k), fun _ _ _ _ _ e => (by cases e)⟩
        · rw [List.getElem?_set_ne (fun e => hij e.symm)] at hi
          exact q9 i o hij hi
    cases x2 with
    | normal =>
      cases e <;> try exact q5.elim
      exact fin none true rfl q10.1 q10.2.1 q10.2.2
    | ret =>
      cases e <;> try exact q5.elim
      exact fin (some .ret) false rfl q10.1 q10.2.1 q10.2.2
    | exit i =>
      cases e <;> try exact q5.elim
      have : i = _ := q5
      subst this
      exact fin (some (.exit i)) false rfl q10.1 q10.2.1 q10.2.2
    | panic v => exact q10.elim

end Go.Gp

/- Loops over iterators: the statement. -/
namespace Go.Gp
open Go.RowKit
set_option linter.unusedVariables false
set_option linter.unusedSimpArgs false

/-- The record of a loop over an iterator. -/
def lobj (fn : FuncId) (tmps : Array Value) (ps : Array Tmp) (assign body : Code) (r : Nat) (t : Slots) (st : LoopState) (pend : Option Code) : AObj :=
  .loop { state := st, pending := pend, fn, tmps, params := ps, assign, body, defers := r } t

/-- What comes behind the statement. -/
def pendK (K : Kont) (t : Slots) (H : List AObj) : Option Code → Prop
  | none => K .normal t H
  | some .ret => K .ret t H
  | some (.exit i) => K (.exit i) t H
  | _ => False

section rules
variable {E : Env} {n : Nat} {K : Kont} {t : Slots} {H : List AObj}

theorem WpA.rangeF {g : Operand} {ps : Array Tmp} {assign body : Code} {q : Nat} {caps : List AV} {fn : Func} {code : Code}
    (hg : evalA E.G t g = .func q caps) (hf : E.P.funcs[q]? = some fn) (hb : fn.body = some code) (hnm : (fn.name == "runtime.NumGoroutine") = false)
    (hc : ∀ fn tmps r, tmps.size = n → CallsA E q ([.yld H.length 0] ++ caps) (H ++ [lobj fn tmps ps assign body r t .ready none]) (fun e H' =>
      (∃ v, e = .ret v) ∧ ∃ st pend, H'[H.length]? = some (lobj fn tmps ps assign body r t st pend) ∧ st ≠ .busy ∧ pendK K t (H'.set H.length (lobj fn tmps ps assign body r t .exhausted pend)) pend)) (hmk : E.marks = true := by rfl) :
    WpA E none n (.rangeFunc g ps assign body) K t H := by
  refine ⟨?_⟩
  intro cd c0 c a e1 e2 e3 e4 e5
  subst e2
  refine wpIn_rangeFunc fun fn' _ => ?_
  -- the marks' block, the record
  let c1 := c.push (.deferred (some []))
  let rec1 : Loop := { state := .ready, pending := none, fn := fn', tmps := a.tmps, params := ps, assign, body, defers := c.w.heap.size }
  let c2 := c1.newObj (.loop rec1 t) (.loop rec1)
  have x1 : Ext c c1 := Ext.push c _ e3.hr
  have r1 : HR c1 := e3.hr.push _
  have x2 : Ext c1 c2 := Ext.newObj c1 _ _ r1
  have hsz1 : c1.w.heap.size = c.w.heap.size + 1 := heap_alloc_size _ _
  have r2 : HR c2 := HR.newObj r1 ⟨heap_alloc_eq _ _, fun i => ((e4.rel i).mono x1.toExt0).mono x2.toExt0⟩
  have o2 : Ok E.G c2 := e3.step (x1.trans x2) r2
  have hι2 : c2.ι c.H.length = some c1.w.heap.size := (newObj_ι r1).2 (.inr ⟨rfl, rfl⟩)
  have hH2 : c2.H = c.H ++ [.loop rec1 t] := rfl
  have hget2 : c2.H[c.H.length]? = some (.loop rec1 t) := by rw [hH2]; simp
  have hgr := eval_rel e3 e4 g
  rw [hg] at hgr
  generalize hgv : a.eval g = gv at hgr
  cases hgr with
  | func ws hl hr =>
    have hyr : RelL c2 ([.yld c.H.length 0] ++ caps) ([Value.func (.yield c1.w.heap.size) #[] #[]] ++ ws) := by
      refine RelL.append (RelL.cons (.yld ⟨_, hget2, rfl, hι2⟩) (RelL.nil _)) ⟨hl, fun i x v h1 h2 => ((hr i x v h1 h2).mono x1.toExt0).mono x2.toExt0⟩
    have hcall := (hc fn' a.tmps c.w.heap.size e4.size).out c2 _ hH2 o2 hyr
    rw [run_callFunc_body hf hb hnm] at hcall
    have hcall' : Calls E.P q ([Value.func (.yield c1.w.heap.size) #[] #[]] ++ ws).toArray c2.w _ := hcall
    refine ⟨c1.w.heap.size, [{ target := .collected c.w.heap.size, args := #[] }], c2.w, { target := .fn (.func q) ws.toArray, args := #[.func (.yield c1.w.heap.size) #[] #[]] }, c2.w, q, ([Value.func (.yield c1.w.heap.size) #[] #[]] ++ ws).toArray, c2.w, ?_, ?_, fun f' _ => Fc_fn none f', ?_, fun h => (by rw [Fc_depth] at h; simp at h), ?_⟩
    · rw [Fc_round]
      simp only [Instr.enterLoop, newObj, Sem.run_bind, Sem.run_pure, Sem.run, Result.andThen]
      rfl
    · have : (rangeCall g c1.w.heap.size).args = #[.const (.func (.yield c1.w.heap.size) #[] #[])] := rfl
      have hev : a.eval (.const (.func (.yield c1.w.heap.size) #[] #[])) = .func (.yield c1.w.heap.size) #[] #[] := rfl
      simp [resolve, rangeCall, hgv, Deferred.ofValue, hev]
    · have := run_callFunc_body (P := E.P) (vs := ([Value.func (.yield c1.w.heap.size) #[] #[]] ++ ws).toArray) (w := c2.w) hf hb hnm
      simpa [invoke] using this
    · rw [Fc_calls]
      refine hcall'.mono ?_
      rintro e w3 ⟨ι3, H3, x3, y1, y2, y3, ⟨v0, hv0⟩, st, pend, y4, y5, y6⟩
      subst hv0
      cases e with
      | panicked chain => exact y3.elim
      | outgrown => exact y3.elim
      | returned v =>
        have hι3 : ι3 c.H.length = some c1.w.heap.size := by
          have h9 : boxAt c2 c.H.length c1.w.heap.size := ⟨_, hget2, rfl, hι2⟩
          exact (y1.bx _ _ h9).choose_spec.2.2
        obtain ⟨h3, h4⟩ := y2.hr.obj _ _ _ y4 hι3 rfl
        obtain ⟨u1, u2⟩ := loop_upd (c := ⟨ι3, H3, w3⟩) (r' := { state := .exhausted, pending := pend, fn := fn', tmps := a.tmps, params := ps, assign := assign, body := body, defers := c.w.heap.size }) y2.hr y4 hι3 rfl
        have hst : (st == LoopState.busy) = false := by cases st <;> first | rfl | exact absurd rfl y5
        have hend : (Instr.endLoop c1.w.heap.size).run E.P w3 = .ok pend { w3 with heap := w3.heap.setIfInBounds c1.w.heap.size (.loop { state := .exhausted, pending := pend, fn := fn', tmps := a.tmps, params := ps, assign := assign, body := body, defers := c.w.heap.size }) } := by
          have h3' : w3.heap[c1.w.heap.size]? = some (.loop { state := st, pending := pend, fn := fn', tmps := a.tmps, params := ps, assign := assign, body := body, defers := c.w.heap.size }) := h3
          simp only [Instr.endLoop, Sem.run_bind]
          rw [run_getLoop h3']
          simp [setObj, Sem.run, Result.andThen, hst, Sem.run_bind, h3']
        refine ⟨pend, _, hend, ?_⟩
        have X : Ext c (Cfg.upd ⟨ι3, H3, w3⟩ c.H.length (lobj fn' a.tmps ps assign body c.w.heap.size t .exhausted pend) { w3 with heap := w3.heap.setIfInBounds c1.w.heap.size (.loop { state := .exhausted, pending := pend, fn := fn', tmps := a.tmps, params := ps, assign := assign, body := body, defers := c.w.heap.size }) }) := (x1.trans x2).trans (y1.trans u1)
        have O := e3.step X u2
        have S : SR (Cfg.upd ⟨ι3, H3, w3⟩ c.H.length (lobj fn' a.tmps ps assign body c.w.heap.size t .exhausted pend) { w3 with heap := w3.heap.setIfInBounds c1.w.heap.size (.loop { state := .exhausted, pending := pend, fn := fn', tmps := a.tmps, params := ps, assign := assign, body := body, defers := c.w.heap.size }) }) n t { tmps := a.tmps, defers := [{ target := .collected c.w.heap.size, args := #[] }] ++ a.defers } := ⟨e4.size, fun i => (e4.rel i).mono X.toExt0⟩
        have D2 : DefOk (cd, E.marks) c2 { tmps := a.tmps, defers := [{ target := .collected c.w.heap.size, args := #[] }] ++ a.defers } := by
          obtain ⟨D, d1, df, d2, ds, d3⟩ := e5.mono (x1.trans x2) rfl (a' := a)
          refine ⟨c.w.heap.size :: D, by simp [marksOf, d1], fun h => absurd (hmk.symm.trans h) (by decide), List.nodup_cons.2 ⟨fun hm => ?_, d2⟩, ds, fun b hbm => ?_⟩
          · obtain ⟨D', d1', _, d2', _, d3'⟩ := e5
            have hDD : D = D' := by
              have h9 : marksOf D = marksOf D' := List.append_cancel_right (d1.symm.trans d1')
              have : ∀ (A B : List Nat), marksOf A = marksOf B → A = B := by
                intro A
                induction A with
                | nil => intro B hB; cases B <;> simp [marksOf] at hB ⊢
                | cons x A ih =>
                  intro B hB
                  cases B with
                  | nil => simp [marksOf] at hB
                  | cons y B =>
                    simp only [marksOf, List.map_cons, List.cons.injEq, Deferred.mk.injEq, Target.collected.injEq, and_true] at hB
                    rw [hB.1, ih B hB.2]
              exact this _ _ h9
            subst hDD
            have := block_lt (d3' _ hm).1
            omega
          · rcases List.mem_cons.1 hbm with rfl | hbm
            · refine ⟨?_, ?_, fun id o ho hl hi => ?_⟩
              · have h1 : c1.w.heap[c.w.heap.size]? = some (.deferred (some [])) := heap_alloc_eq _ _
                exact (heap_alloc_lt c1.w _ (by omega)).trans h1
              · obtain ⟨D', d1', _, d2', ds', d3'⟩ := e5
                exact ds'
              · rcases newObj_get.1 ho with ho | ⟨rfl, _⟩
                · rcases (newObj_ι r1).1 hi with hi | ⟨_, hi⟩
                  · have := e3.hr.bound id _ hi
                    omega
                  · omega
                · rcases (newObj_ι r1).1 hi with hi | ⟨_, hi⟩
                  · have := e3.hr.bound _ _ hi
                    omega
                  · omega
            · exact d3 b hbm
        have D : DefOk (cd, E.marks) _ { tmps := a.tmps, defers := [{ target := .collected c.w.heap.size, args := #[] }] ++ a.defers } := D2.mono (y1.trans u1) rfl
        cases pend with
        | none => exact Post.mk .normal (e1.trans X) O S D trivial y6
        | some cc =>
          cases cc <;> try exact y6.elim
          · exact wpIn_exit (Post.mk (.exit _) (e1.trans X) O S D rfl y6)
          · exact wpIn_ret (Post.mk .ret (e1.trans X) O S D trivial y6)
end rules

/-! ### Iterators over items -/
/-- The items, one by one, until the answer is no. -/
def runIt {σ ι : Type} (f : σ → ι → Bool × σ) : σ → List ι → σ
  | s, [] => s
  | s, x :: xs => bif (f s x).1 then runIt f (f s x).2 xs else (f s x).2

/-- Whether all were wanted. -/
def allIt {σ ι : Type} (f : σ → ι → Bool × σ) : σ → List ι → Bool
  | s, [] => true
  | s, x :: xs => bif (f s x).1 then allIt f (f s x).2 xs else false

structure Ylds (E : Env) (y : AV) {σ : Type} (Hf : σ → List AObj) (f : σ → List AV → Bool × σ) (ok : σ → Prop) (items : List (List AV)) : Prop where
  app : ∀ s x X, ok s → x ∈ items → AppA E y x (Hf s ++ X) (fun e H' => e = .ret (.bool (f s x).1) ∧ H' = Hf (f s x).2 ++ X)
  next : ∀ s x, ok s → x ∈ items → (f s x).1 = true → ok (f s x).2
  len : ∀ s s', (Hf s).length = (Hf s').length
  tr : ∀ s s' X, TrOk (Hf s ++ X) (Hf s' ++ X)

/-- Items of any kind: what is handed on for one, what of memory is told with it. -/
structure YldsG (E : Env) (y : AV) {σ ι : Type} (args : ι → List AV) (pr : ι → List AObj → Prop) (Hf : σ → List AObj) (f : σ → ι → Bool × σ) (ok : σ → Prop) (P : ι → Prop) : Prop where
  app : ∀ s x X, ok s → P x → pr x (Hf s ++ X) → AppA E y (args x) (Hf s ++ X) (fun e H' => e = .ret (.bool (f s x).1) ∧ H' = Hf (f s x).2 ++ X)
  next : ∀ s x, ok s → P x → (f s x).1 = true → ok (f s x).2
  len : ∀ s s', (Hf s).length = (Hf s').length
  tr : ∀ s s' X, TrOk (Hf s ++ X) (Hf s' ++ X)
def IterG (E : Env) (g : Nat) (caps : List AV) (pre : List AObj → Prop) (al : Bool) {ι : Type} (args : ι → List AV) (pr : ι → List AObj → Prop) (P : ι → Prop) (Q : List ι → Prop) : Prop :=
  ∀ (yn yj : Nat) (σ : Type) (Hf : σ → List AObj) (f : σ → ι → Bool × σ) (ok : σ → Prop), YldsG E (.yld yn yj) args pr Hf f ok P → (∀ s X, pre (Hf s ++ X)) → (al = true → ∀ s x, ok s → P x → (f s x).1 = true) → ∀ s X, ok s →
    CallsA E g ([.yld yn yj] ++ caps) (Hf s ++ X) (fun e H' => e = .ret (.tup []) ∧ ∃ its, Q its ∧ H' = Hf (runIt f s its) ++ X)

theorem Ylds.sub {E : Env} {y : AV} {σ : Type} {Hf : σ → List AObj} {f : σ → List AV → Bool × σ} {ok : σ → Prop} {items items' : List (List AV)} (h : Ylds E y Hf f ok items) (hs : ∀ x ∈ items', x ∈ items) : Ylds E y Hf f ok items' :=
  ⟨fun s x X h1 h2 => h.app s x X h1 (hs x h2), fun s x h1 h2 => h.next s x h1 (hs x h2), h.len, h.tr⟩

theorem runIt_append {σ ι : Type} (f : σ → ι → Bool × σ) : ∀ (xs ys : List ι) (s : σ), runIt f s (xs ++ ys) = bif allIt f s xs then runIt f (runIt f s xs) ys else runIt f s xs
  | [], ys, s => rfl
  | x :: xs, ys, s => by
    simp only [List.cons_append, runIt, allIt]
    cases hf : (f s x).1 with
    | false => rfl
    | true => exact runIt_append f xs ys _
theorem allIt_append {σ ι : Type} (f : σ → ι → Bool × σ) : ∀ (xs ys : List ι) (s : σ), allIt f s (xs ++ ys) = (allIt f s xs && allIt f (runIt f s xs) ys)
  | [], ys, s => rfl
  | x :: xs, ys, s => by
    simp only [List.cons_append, runIt, allIt]
    cases hf : (f s x).1 with
    | false => rfl
    | true => exact allIt_append f xs ys _

section ranges
variable {E : Env} {n : Nat} {K : Kont} {t : Slots}

/-- What a round of such a loop ends with: a state, and a jump or none. -/
def rndK {σ : Type} (Hf : σ → List AObj) (rec : LoopState → Option Code → AObj) (X : List AObj) (out : σ × Option Code) : Kont := fun x t2 H2 =>
  ∃ L, H2 = (Hf out.1 ++ (rec .busy none :: X)) ++ L ∧
    (match x with
      | .normal => out.2 = none
      | .ret => out.2 = some .ret
      | .exit i => out.2 = some (.exit i)
      | .panic _ => False)

/-- A loop over items: 'step' says what a round makes of the state, and how it leaves. -/
def runStep {σ ι : Type} (step : σ → ι → σ × Option Code) : σ → List ι → σ × Option Code
  | s, [] => (s, none)
  | s, x :: xs => match step s x with
    | (s', none) => runStep step s' xs
    | (s', some j) => (s', some j)

theorem WpA.rangeG {σ ι : Type} {g : Operand} {pl : List Tmp} {assign body : Code} {q : Nat} {caps : List AV} {fn : Func} {code : Code} {args : ι → List AV} {pr : ι → List AObj → Prop} {P : ι → Prop} {Q : List ι → Prop} (Hf : σ → List AObj) (step : σ → ι → σ × Option Code) (ok : σ → Prop) (s0 : σ) {N : Nat}
    (hg : evalA E.G t g = .func q caps) (hf : E.P.funcs[q]? = some fn) (hb : fn.body = some code) (hnm : (fn.name == "runtime.NumGoroutine") = false)
    {pre : List AObj → Prop} {al : Bool} (hI : IterG E q caps pre al args pr P Q) (hpre : ∀ s X, pre (Hf s ++ X)) (h0 : ok s0) (hN : ∀ s, (Hf s).length = N)
    (htr' : ∀ s s', ∀ (i : Nat) o, (Hf s')[i]? = some o → (Hf s)[i]? = some o ∨ OBd N o) (hts : BdS N t)
    (hpl : ∀ x, P x → pl.length = (args x).length) (hpn : ∀ p ∈ pl, p < n)
    (hnx : ∀ s x, ok s → P x → (step s x).2 = none → ok (step s x).1)
    (hr : ∀ (rec : LoopState → Option Code → AObj) l s x X, (∀ st p cs, rec st p ≠ .cells cs) → ok s → P x → ∀ B B' : List AObj, B = Hf s ++ (rec .ready none :: X) → B' = Hf s ++ (rec .busy none :: X) → B.length = B'.length → pr x B →
      WpA E (some l) n assign (fun x1 t1 H1 => x1 = .normal ∧ ∃ La, H1 = B ++ La ∧ WpA E (some l) n body (rndK Hf rec X (step s x)) t1 (B' ++ La)) (putPs pl (args x) t) (B ++ []))
    (hk : ∀ (rec : LoopState → Option Code → AObj) its, Q its → pendK K t (Hf (runStep step s0 its).1 ++ [rec .exhausted (runStep step s0 its).2]) (runStep step s0 its).2) (hal : al = true → ∀ s x, ok s → P x → (step s x).2 = none) (hmk : E.marks = true := by rfl) :
    WpA E none n (.rangeFunc g pl.toArray assign body) K t (Hf s0) := by
  refine WpA.rangeF hg hf hb hnm (fun fn' tmps r hn => ?_) hmk
  let rec' := lobj fn' tmps pl.toArray assign body r t
  let st : Option Code → LoopState := fun j => if j.isNone then .ready else .done
  let Hg : σ × Option Code → List AObj := fun p => Hf p.1 ++ [rec' (st p.2) p.2]
  let f : σ × Option Code → ι → Bool × (σ × Option Code) := fun p x => ((step p.1 x).2.isNone, step p.1 x)
  have hrl : ∀ stt pend, OBd N (rec' stt pend) := fun stt pend => ⟨fun cs e => (by cases e), fun es k e => (by cases e), fun r' t' e k => (by injection e with _ e; subst e; exact hts.look k), fun _ _ _ _ _ e => (by cases e)⟩
  have hle : ∀ {a b : Nat} {o : AObj}, a ≤ b → OBd a o → OBd b o := fun hab ho => ⟨fun cs e a ha => (ho.1 cs e a ha).le hab, fun es k e x hx => ⟨(ho.2.1 es k e x hx).1.le hab, (ho.2.1 es k e x hx).2.le hab⟩, fun r t e i => (ho.2.2.1 r t e i).le hab, fun m j a s q e => Nat.lt_of_lt_of_le (ho.2.2.2 m j a s q e) hab⟩
  have hy : YldsG E (.yld (Hf s0).length 0) args pr Hg f (fun p => ok p.1 ∧ p.2 = none) P := by
    refine ⟨?_, ?_, ?_, ?_⟩
    · rintro ⟨s, pd⟩ x X ⟨hs, rfl⟩ hx hpr
      have hidx : (Hf s0).length + 0 = (Hf s).length := by rw [hN, hN]; rfl
      refine AppA.round (r := { state := .ready, pending := none, fn := fn', tmps := tmps, params := pl.toArray, assign := assign, body := body, defers := r }) (ts := t) (n := n) pl ?_ rfl hn rfl (hpl x hx) hpn fun l => ?_
      · show (Hf s ++ [rec' .ready none] ++ X)[(Hf s0).length + 0]? = _
        rw [hidx, List.append_assoc, List.getElem?_append_right (Nat.le_refl _), Nat.sub_self]
        rfl
      · have he : Hg (s, none) ++ X = Hf s ++ (rec' .ready none :: X) := by show Hf s ++ [rec' .ready none] ++ X = _; rw [List.append_assoc]; rfl
        have := hr rec' l s x X (fun _ _ _ e => by cases e) hs hx _ _ rfl rfl (by simp) (by rw [← he]; exact hpr)
        rw [he]
        rw [List.append_nil] at this
        refine this.mono ?_
        rintro x1 t1 H1 ⟨rfl, La, rfl, hw⟩
        have hset : ∀ (s1 : σ) (o o' : AObj), (Hf s1 ++ (o :: X)).set ((Hf s0).length + 0) o' = Hf s1 ++ (o' :: X) := fun s1 o o' => by
          rw [show (Hf s0).length + 0 = (Hf s1).length from by rw [hN, hN]; rfl, List.set_append_right _ _ (Nat.le_refl _), Nat.sub_self]
          rfl
        have hget : ∀ (s1 : σ) (o : AObj), (Hf s1 ++ (o :: X))[(Hf s0).length + 0]? = some o := fun s1 o => by
          rw [show (Hf s0).length + 0 = (Hf s1).length from by rw [hN, hN]; rfl, List.getElem?_append_right (Nat.le_refl _), Nat.sub_self]
          rfl
        have hlt : (Hf s0).length + 0 < (Hf s ++ (rec' .ready none :: X)).length := by simp [hN]
        refine ⟨rfl, by rw [List.getElem?_append_left hlt]; exact hget s _, ?_⟩
        rw [List.set_append_left _ _ hlt, hset]
        refine hw.mono ?_
        rintro x2 t2 H2 ⟨L, rfl, hx2⟩
        have hkeep : ∀ (i : Nat) o, i ≠ (Hf s0).length + 0 → (Hf (step s x).1 ++ (rec' .busy none :: X))[i]? = some o → (Hf s ++ (rec' .ready none :: X))[i]? = some o ∨ OBd (Hf s ++ (rec' .ready none :: X)).length o := by
          intro i o hne hi
          rcases Nat.lt_or_ge i N with hlt | hge
          · rw [List.getElem?_append_left (by rw [hN]; exact hlt)] at hi
            rcases htr' s _ i o hi with h1 | h1
            · exact .inl (by rw [List.getElem?_append_left (by rw [hN]; exact hlt)]; exact h1)
            · exact .inr (hle (by simp [hN]) h1)
          · rw [List.getElem?_append_right (by rw [hN]; exact hge), hN] at hi
            refine .inl ?_
            rw [List.getElem?_append_right (by rw [hN]; exact hge), hN]
            obtain ⟨d, hd⟩ : ∃ d, i - N = d + 1 := ⟨i - N - 1, by have := hN s0; omega⟩
            rw [hd] at hi ⊢
            exact hi
        have hlen : (Hf (step s x).1 ++ (rec' .busy none :: X)).length = (Hf s ++ (rec' .ready none :: X)).length := by simp [hN]
        have hfin : ∀ pend, (step s x).2 = pend → (Hf (step s x).1 ++ (rec' .busy none :: X)).set ((Hf s0).length + 0) (rec' (st pend) pend) = Hg (f (s, none) x).2 ++ X := by
          rintro pend rfl
          rw [hset]
          show _ = Hf (step s x).1 ++ [rec' (st (step s x).2) (step s x).2] ++ X
          rw [List.append_assoc]
          rfl
        cases x2 with
        | panic v => exact hx2.elim
        | normal =>
          have e1 : (step s x).2 = none := hx2
          refine ⟨.ready, none, _, L, rfl, hlen, hget _ _, hkeep, rfl, rfl, ?_, ?_⟩
          · show AEnd.ret (.bool true) = .ret (.bool (step s x).2.isNone)
            rw [e1]; rfl
          · exact hfin none e1
        | ret =>
          have e1 : (step s x).2 = some .ret := hx2
          refine ⟨.done, some .ret, _, L, rfl, hlen, hget _ _, hkeep, rfl, rfl, ?_, ?_⟩
          · show AEnd.ret (.bool false) = .ret (.bool (step s x).2.isNone)
            rw [e1]; rfl
          · exact hfin _ e1
        | exit i =>
          have e1 : (step s x).2 = some (.exit i) := hx2
          refine ⟨.done, some (.exit i), _, L, rfl, hlen, hget _ _, hkeep, rfl, rfl, ?_, ?_⟩
          · show AEnd.ret (.bool false) = .ret (.bool (step s x).2.isNone)
            rw [e1]; rfl
          · exact hfin _ e1
    · rintro ⟨s, pd⟩ x ⟨hs, rfl⟩ hx hf
      have e1 : (step s x).2 = none := by simpa [f] using hf
      exact ⟨hnx s x hs hx e1, e1⟩
    · rintro ⟨s, p⟩ ⟨s', p'⟩
      simp [Hg, hN]
    · rintro ⟨s, p⟩ ⟨s', p'⟩ X i o hi
      have hi' : (Hf s' ++ (rec' (st p') p' :: X))[i]? = some o := by
        have : Hg (s', p') ++ X = Hf s' ++ (rec' (st p') p' :: X) := by show Hf s' ++ [_] ++ X = _; rw [List.append_assoc]; rfl
        rw [← this]; exact hi
      have he : Hg (s, p) ++ X = Hf s ++ (rec' (st p) p :: X) := by show Hf s ++ [_] ++ X = _; rw [List.append_assoc]; rfl
      rw [he]
      rcases Nat.lt_or_ge i N with hlt | hge
      · rw [List.getElem?_append_left (by rw [hN]; exact hlt)] at hi'
        rcases htr' s _ i o hi' with h1 | h1
        · exact .inl (by rw [List.getElem?_append_left (by rw [hN]; exact hlt)]; exact h1)
        · exact .inr (hle (by simp [hN]) h1)
      · rw [List.getElem?_append_right (by rw [hN]; exact hge), hN] at hi'
        rw [List.getElem?_append_right (by rw [hN]; exact hge), hN]
        cases hd : i - N with
        | zero =>
          rw [hd] at hi'
          injection hi' with hi'
          subst hi'
          exact .inr (hle (by simp [hN]) (hrl _ _))
        | succ d => rw [hd] at hi'; exact .inl hi'
  have hrun : ∀ (its : List ι) (s : σ), runIt f (s, none) its = runStep step s its := by
    intro its
    induction its with
    | nil => intro s; rfl
    | cons x xs ih =>
      intro s
      unfold runIt runStep
      cases hst : step s x with
      | mk s' j =>
        have hf1 : f (s, none) x = (j.isNone, (s', j)) := by show ((step s x).2.isNone, step s x) = _; rw [hst]
        rw [hf1]
        cases j with
        | none => exact ih s'
        | some j => rfl
  have h := hI _ _ _ Hg f _ hy (fun p X => by show pre (Hf p.1 ++ [_] ++ X); rw [List.append_assoc]; exact hpre _ _) (fun ha p x hp hx => by show (step p.1 x).2.isNone = true; rw [hal ha p.1 x hp.1 hx]; rfl) (s0, none) [] ⟨h0, rfl⟩
  · have hHg : Hg (s0, none) ++ [] = Hf s0 ++ [lobj fn' tmps pl.toArray assign body r t .ready none] := by rw [List.append_nil]; rfl
    rw [hHg] at h
    refine h.mono ?_
    rintro e H' ⟨rfl, its, hPi, rfl⟩
    rw [hrun, List.append_nil]
    have hget : (Hg (runStep step s0 its))[(Hf s0).length]? = some (rec' (st (runStep step s0 its).2) (runStep step s0 its).2) := by
      show (Hf _ ++ [_])[_]? = _
      rw [hN s0, ← hN (runStep step s0 its).1, List.getElem?_append_right (Nat.le_refl _), Nat.sub_self]
      rfl
    refine ⟨⟨_, rfl⟩, _, _, hget, ?_, ?_⟩
    · show st _ ≠ _
      simp only [st]
      split <;> simp
    · have : (Hg (runStep step s0 its)).set (Hf s0).length (lobj fn' tmps pl.toArray assign body r t .exhausted (runStep step s0 its).2) = Hf (runStep step s0 its).1 ++ [rec' .exhausted (runStep step s0 its).2] := by
        show (Hf _ ++ [_]).set _ _ = _
        rw [hN s0, ← hN (runStep step s0 its).1, List.set_append_right _ _ (Nat.le_refl _), Nat.sub_self]
        rfl
      rw [this]
      exact hk rec' its hPi

end ranges

end Go.Gp



/- Rows that came in; nil handed on as a row; what is cut off behind a call. -/
namespace Go.Gp
open Go.RowKit
set_option linter.unusedVariables false
set_option linter.unusedSimpArgs false

section
variable {E : Env} {ro : Option Nat} {n : Nat} {K : Kont} {t : Slots} {H H' H1 L : List AObj} {ops : Array Oper} {o : Oper} {l rest : List Oper} {cl : List Nat} {k d : Nat} {av : AV} {Kc : Slots → List AObj → Prop}

/-- An append to a row whose tail came in. -/
theorem P1.appX {ty tx e z m j : Nat} {i ix : TI} {p q : Operand} {xs ys : List (List AV)}
    (hop : o.op = .call { callee := .builtin .append, args := ⟨[p, q]⟩, argTypes := ⟨[ty, tx]⟩ }) (hs : sliceOf E.T ty = some (e, i)) (hz : i.sz = z) (hx : lookT E.T tx = some ix) (hd : ∀ k, ix.d ≠ .int k)
    (hb : Nat.blt 0 i.bytes = true) (hz0 : Nat.blt 0 z = true) (hzs : Nat.beq i.zero.cells.size z = true) (hp : evalA E.G t p = .sl (.row m j) z xs) (hL : H[m + j]? = some (.tail xs.length z)) (hq : srcA z (evalA E.G t q) = some ys) (hone : ∀ y ∈ ys, ∀ a ∈ y, a.one = true)
    (hfit : (xs.length + ys.length) * i.bytes ≤ 140737488355328) :
    P1 E n (H ++ L) (H.set (m + j) (.tail (xs ++ ys).length z) ++ L) o t (.sl (.row m j) z (xs ++ ys)) :=
  ⟨fun cc e => (by rw [hop] at e; cases e), fun c a hH ho sr => by
    subst hz
    have hpr := eval_rel ho sr p
    rw [hp] at hpr
    have hqr := eval_rel ho sr q
    obtain ⟨s1, s2⟩ := srcA_ok hq hqr
    have hlt := get_lt hL
    have hcH : c.H[m + j]? = some (.tail xs.length i.sz) := by rw [hH, List.getElem?_append_left hlt]; exact hL
    obtain ⟨v', ι', w', h1, h2, h3, h4⟩ := app_row (ty0 := o.type) ho.hr hs hx hd (by simpa using hb) (by simpa using hz0) hone (Nat.eq_of_beq_eq_true hzs) hcH hpr s1 s2 hfit
    rw [hH, List.set_append_left _ _ hlt] at h2 h3 h4
    rw [List.length_append]
    refine ⟨v', ι', w', ?_, h2, h3, h4⟩
    simp [execOp, hop, resolve, invoke, builtin, h1]⟩

theorem WpOps.appX {ty tx e z m j : Nat} {i ix : TI} {p q : Operand} {xs ys : List (List AV)} (hw : wantedA ops t o = some true) (hd : o.dst = some d) (hdn : Nat.blt d n = true)
    (hop : o.op = .call { callee := .builtin .append, args := ⟨[p, q]⟩, argTypes := ⟨[ty, tx]⟩ }) (hs : sliceOf E.T ty = some (e, i)) (hz : i.sz = z) (hx : lookT E.T tx = some ix) (hdd : ∀ k, ix.d ≠ .int k)
    (hb : Nat.blt 0 i.bytes = true) (hz0 : Nat.blt 0 z = true) (hzs : Nat.beq i.zero.cells.size z = true) (hp : evalA E.G t p = .sl (.row m j) z xs) (hL : H[m + j]? = some (.tail xs.length z)) (hq : srcA z (evalA E.G t q) = some ys) (hone : ∀ y ∈ ys, ∀ a ∈ y, a.one = true)
    (hfit : (xs.length + ys.length) * i.bytes ≤ 140737488355328)
    (hk : WpOps E ro n ops rest K ((d, .sl (.row m j) z (xs ++ ys)) :: t) (H.set (m + j) (.tail (xs ++ ys).length z) ++ L)) : WpOps E ro n ops (o :: rest) K t (H ++ L) :=
  .p1 hw hd hdn (.appX hop hs hz hx hdd hb hz0 hzs hp hL hq hone hfit) hk
end

/-- A nil that is handed on as a row of its own. -/
theorem CallsA.adopt {E : Env} {g : Nat} {us ws : List AV} {z z0 : Nat} {H : List AObj} {R : AEnd → List AObj → Prop}
    (h : CallsA E g (us ++ ([.sl (.row H.length 0) z []] ++ ws)) (H ++ [.tail 0 z]) R) : CallsA E g (us ++ ([.sl .full z0 []] ++ ws)) H R := by
  refine ⟨?_⟩
  intro c vs e1 e2 e3
  subst e1
  have hx := Ext.adopt c z e2.hr
  have hh := e2.hr.adopt z
  have hlen : us.length ≤ vs.length := by rw [← e3.1]; simp
  have h1 : RelL (c.adopt z) (us ++ ([.sl (.row c.H.length 0) z []] ++ ws)) vs := by
    refine ⟨by have := e3.1; simpa using this, fun i a v ha hv => ?_⟩
    by_cases hi : i = us.length
    · subst hi
      rw [List.getElem?_append_right (Nat.le_refl _), Nat.sub_self] at ha
      injection ha with ha
      subst ha
      refine RelV.adopt (z0 := z0) e2.hr (by simp) (e3.2 us.length _ v ?_ hv)
      rw [List.getElem?_append_right (Nat.le_refl _), Nat.sub_self]
      rfl
    · refine (e3.2 i a v ?_ hv).mono hx.toExt0
      rcases Nat.lt_or_ge i us.length with hlt | hge
      · rw [List.getElem?_append_left hlt] at ha ⊢; exact ha
      · rw [List.getElem?_append_right hge] at ha ⊢
        obtain ⟨k, hk⟩ : ∃ k, i - us.length = k + 1 := ⟨i - us.length - 1, by omega⟩
        rw [hk] at ha ⊢
        exact ha
  have h2 := h.out (c.adopt z) vs rfl (e2.step hx hh) h1
  have hfin : ∀ e w, PostC E.G (c.adopt z) R e w → PostC E.G c R e w := by
    rintro e w ⟨ι, H', x, a1, a2, a3, a4⟩
    exact ⟨ι, H', x, hx.trans a1, a2, a3, a4⟩
  show UponC E.P _ ((callFunc g vs.toArray).run E.P c.w)
  have hw : (c.adopt z).w = c.w := rfl
  rw [hw] at h2
  unfold UponC at h2 ⊢
  split at h2
  · exact Calls.mono h2 hfin
  · exact hfin _ _ h2
  · exact h2.elim

/-- Behind a call: what was laid is cut off, less is said of the result. -/
theorem CallsA.cut {E : Env} {g : Nat} {as : List AV} {H H1 : List AObj} {r : AV} (hl : H1.length = H.length) (ht : TrOk H H1) (hb : Bd H.length r)
    (h : CallsA E g as H (fun e H' => ∃ L r0, H' = H1 ++ L ∧ e = .ret r0 ∧ Sub r0 r)) : CallsA E g as H (fun e H' => H' = H1 ∧ e = .ret r) := by
  refine ⟨?_⟩
  intro c vs e1 e2 e3
  have h2 := h.out c vs e1 e2 e3
  subst e1
  have hfin : ∀ e w, PostC E.G c (fun e H' => ∃ L r0, H' = H1 ++ L ∧ e = .ret r0 ∧ Sub r0 r) e w → PostC E.G c (fun e H' => H' = H1 ∧ e = .ret r) e w := by
    rintro e w ⟨ι, H', x, a1, a2, a3, L, r0, rfl, rfl, hs⟩
    cases e with
    | panicked _ => exact a3.elim
    | outgrown => exact a3.elim
    | returned v =>
      refine RetR.use (c' := ⟨ι, H1 ++ L, w⟩) (v := r) (e := .ret r) a1 e2 a2 (.cut H1 L rfl hl ht hb ⟨rfl, rfl⟩) ?_
      have hr : RelV ⟨ι, H1 ++ L, w⟩ r v := hs _ _ a3
      rintro c'' (rfl | ⟨rfl, hbd⟩)
      · exact hr
      · exact hr.trunc hbd
  unfold UponC at h2 ⊢
  split at h2
  · exact Calls.mono h2 hfin
  · exact hfin _ _ h2
  · exact h2.elim

theorem grow {H A L X : List AObj} (h : X = A ++ L) : H ++ X = (H ++ A) ++ L := by rw [h, List.append_assoc]

theorem Agree.cons {d : Nat} {v : AV} : ∀ {T t : Slots}, (∀ p ∈ T, p.1 ≠ d) → Agree T t → Agree T ((d, v) :: t)
  | [], t, _, _ => trivial
  | (k, u) :: r, t, hd, h => by
    refine ⟨?_, Agree.cons (fun p hp => hd p (List.mem_cons_of_mem _ hp)) h.2⟩
    show (bif Nat.beq d k then v else look t k) = u
    have : Nat.beq d k = false := by
      cases hb : Nat.beq d k with
      | false => rfl
      | true => exact absurd (Nat.eq_of_beq_eq_true hb).symm (hd _ List.mem_cons_self)
    rw [this]
    exact h.1

/-- A loop whose state is known at each round. -/
theorem WpA.loopFor {E : Env} {ro : Option Nat} {n : Nat} {K : Kont} {t : Slots} {H : List AObj} {body : Code} (N : Nat) (T : Nat → Slots) (Hf : Nat → List AObj) (ok : Nat → Prop) (h0 : ok 0) (hT : Agree (T 0) t) (hH : H = Hf 0)
    (hr : ∀ i, i < N → ok i → WpA E ro n body (thenK (fun t' H' => ok (i + 1) ∧ Agree (T (i + 1)) t' ∧ H' = Hf (i + 1)) K) (T i) (Hf i))
    (hx : ok N → WpA E ro n body (thenK (fun _ _ => False) K) (T N) (Hf N)) : WpA E ro n (.loop body) K t H := by
  refine WpA.loopS (α := Nat) T Hf (fun i => i ≤ N ∧ ok i) (fun i => N - i) 0 ⟨Nat.zero_le _, h0⟩ hT hH ?_
  rintro i ⟨hi, ho⟩
  rcases Nat.lt_or_ge i N with hlt | hge
  · refine (hr i hlt ho).mono fun x t' H' h => ?_
    cases x with
    | normal => exact ⟨i + 1, ⟨by omega, h.1⟩, by omega, h.2.1, h.2.2⟩
    | exit i => exact h
    | ret => exact h
    | panic v => exact h
  · have : i = N := by omega
    subst this
    refine (hx ho).mono fun x t' H' h => ?_
    cases x with
    | normal => exact h.elim
    | exit i => exact h
    | ret => exact h
    | panic v => exact h

/-- What a round that goes on leaves: the next state, and what it has laid. -/
def goOn (T : Slots) (H1 : List AObj) (ok : Prop) (K : Kont) : Kont
  | .normal, t', H' => ok ∧ Agree T t' ∧ ∃ L, H' = H1 ++ L
  | x, t', H' => K x t' H'

/-- .. what a round lays is left out of sight. -/
theorem WpA.loopG {E : Env} {ro : Option Nat} {n : Nat} {K : Kont} {t : Slots} {H : List AObj} {body : Code} (N : Nat) (T : Nat → Slots) (Hf : Nat → List AObj) (ok : Nat → Prop) (h0 : ok 0) (hT : Agree (T 0) t) (hH : H = Hf 0)
    (hl : ∀ i, i < N → (Hf (i + 1)).length = (Hf i).length) (htr : ∀ i, i < N → ok i → TrOk (Hf i) (Hf (i + 1))) (hbd : ∀ i, i < N → ok i → BdS (Hf i).length (T (i + 1)))
    (hr : ∀ i, i < N → ok i → WpA E ro n body (goOn (T (i + 1)) (Hf (i + 1)) (ok (i + 1)) K) (T i) (Hf i))
    (hx : ok N → WpA E ro n body (thenK (fun _ _ => False) K) (T N) (Hf N)) (hT' : ∀ i, Agree (T i) (T i)) : WpA E ro n (.loop body) K t H := by
  refine WpA.loopFor N T Hf ok h0 hT hH (fun i hi ho => ?_) hx
  refine WpA.scope ((hr i hi ho).mono fun x t' H' h => ?_)
  cases x with
  | normal =>
    obtain ⟨h1, h2, L, rfl⟩ := h
    exact .inr ⟨Hf (i + 1), L, T (i + 1), rfl, hl i hi, htr i hi ho, h2, hbd i hi ho, fun v e => (by cases e), h1, hT' (i + 1), rfl⟩
  | exit i => exact .inl h
  | ret => exact .inl h
  | panic v => exact .inl h

/-- Where ways meet again. -/
theorem WpA.joinS {E : Env} {ro : Option Nat} {n : Nat} {K : Kont} {t : Slots} {H : List AObj} {code rest : Code} (T : Slots) (H1 : List AObj)
    (h : WpA E ro n code (thenK (fun t' H' => Agree T t' ∧ H' = H1) K) t H) (hrest : WpA E ro n rest K T H1) : WpA E ro n code (thenK (WpA E ro n rest K) K) t H :=
  h.mono fun x t' H' h => by
    cases x with
    | normal => obtain ⟨h1, rfl⟩ := h; exact hrest.weak h1
    | exit i => exact h
    | ret => exact h
    | panic v => exact h

end Go.Gp

/- Rows of bytes. -/
namespace Go.Gp
open Go.RowKit
set_option linter.unusedVariables false
set_option linter.unusedSimpArgs false

theorem bd_rowB {n m q : Nat} (h : m + q < n) (bs : List UInt8) : Bd n (.sl (.row m q) 1 (bs.map byteRow)) := by
  refine .sl (fun m' j' e => by injection e with e1 e2; subst e1; subst e2; exact h) fun x hx e he => ?_
  obtain ⟨b, _, rfl⟩ := List.mem_map.1 hx
  have := List.mem_singleton.1 he
  subst this
  exact .int

theorem bd_slB {n : Nat} (bs : List UInt8) : Bd n (.sl .no 1 (bs.map byteRow)) := by
  refine .sl (fun m' j' e => by cases e) fun x hx e he => ?_
  obtain ⟨b, _, rfl⟩ := List.mem_map.1 hx
  have := List.mem_singleton.1 he
  subst this
  exact .int

theorem u8wrap (n : Nat) : IntKind.u8.wrap (n : Int) = (((UInt8.ofNat n).toNat : Nat) : Int) := by
  rw [UInt8.toNat_ofNat']
  simp only [IntKind.wrap, IntKind.bits, IntKind.signed]
  simp
theorem WpA.heap {E : Env} {ro : Option Nat} {n : Nat} {K : Kont} {t : Slots} {H H' : List AObj} {code : Code} (h : H = H') (hw : WpA E ro n code K t H') : WpA E ro n code K t H := by rw [h]; exact hw

/-- Less is known of the arguments than there is. -/
theorem CallsA.subL {E : Env} {g : Nat} {us vs : List AV} {H : List AObj} {R : AEnd → List AObj → Prop} (h : SubL us vs) (hc : CallsA E g vs H R) : CallsA E g us H R :=
  ⟨fun c xs e1 e2 e3 => hc.out c xs e1 e2 (h.rel e3)⟩
theorem SubL.refl : ∀ us : List AV, SubL us us
  | [] => trivial
  | u :: us => ⟨Sub.refl u, SubL.refl us⟩

theorem obd_tail {n a b : Nat} : OBd n (.tail a b) := ⟨fun cs e => (by cases e), fun es k e => (by cases e), fun r t e => (by cases e), fun _ _ _ _ _ e => (by cases e)⟩
theorem obd_cells {n : Nat} {cs : List AV} (h : ∀ a ∈ cs, Bd n a) : OBd n (.cells cs) := ⟨fun cs e => (by injection e with e; subst e; exact h), fun es k e => (by cases e), fun r t e => (by cases e), fun _ _ _ _ _ e => (by cases e)⟩
theorem TrOk.set1 {H : List AObj} {k : Nat} {o' : AObj} (h : OBd H.length o') : TrOk H (H.set k o') := fun i o hi => by
  rw [List.getElem?_set] at hi
  split at hi
  · split at hi
    · injection hi with hi; subst hi; exact .inr h
    · cases hi
  · exact .inl hi
theorem TrOk.set2 {H L : List AObj} {k : Nat} {o o' : AObj} (h : ∀ n, OBd n o') : TrOk (H.set k o ++ L) (H.set k o' ++ L) := fun i x hi => by
  rcases Nat.lt_or_ge i H.length with hlt | hge
  · rw [List.getElem?_append_left (by simpa using hlt)] at hi ⊢
    rw [List.getElem?_set] at hi ⊢
    split at hi
    · rename_i hk
      rw [if_pos (by omega)] at hi
      injection hi with hi
      subst hi
      exact .inr (h _)
    · rename_i hk
      rw [if_neg hk]
      exact .inl hi
  · rw [List.getElem?_append_right (by simpa using hge)] at hi ⊢
    simp only [List.length_set] at hi ⊢
    exact .inl hi
end Go.Gp


