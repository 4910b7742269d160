/- Part of a proof: GpA24, GpA25, GpA26, GpA27, GpA28, GpA29, GpA30, GpA31, GpA32, GpA33 -/
import Derived.Test.YtlmjiblfmhaicaaGreatDoorK8
import Derived.Laws.Cover3
import Derived.RangeFuncIn

set_option linter.unusedSectionVars false



/- Boxes that are written no more. -/
namespace Go.Gp
open Go.RowKit
set_option linter.unusedVariables false
set_option linter.unusedSimpArgs false

/-- The box is given up: what it holds is frozen. -/
def Cfg.kill (c : Cfg) (id : Nat) : Cfg := { c with H := c.H.set id .dead }

theorem kill_wr {c : Cfg} {id : Nat} {p : Addr} (hid : id < c.H.length) (h : Wr (c.kill id) p) : Wr c p := by
  obtain ⟨k, x, h1, h2, h3⟩ := h
  rcases (set_get hid).1 h1 with ⟨rfl, rfl⟩ | ⟨_, h1⟩
  · exact h3.elim
  · exact ⟨k, x, h1, h2, h3⟩

theorem Ext.kill {c : Cfg} {id : Nat} {cs : List AV} (h : HR c) (hH : c.H[id]? = some (.cells cs)) : Ext c (c.kill id) := by
  have hid := get_lt hH
  exact {
    fz := fun p v _ hf => ⟨hf.1, fun hw => hf.2 (kill_wr hid hw)⟩
    bx := fun k b ⟨x, h1, h2, h3⟩ => by
      by_cases hk : k = id
      · exact ⟨.dead, (set_get hid).2 (.inl ⟨hk, rfl⟩), rfl, h3⟩
      · exact ⟨x, (set_get hid).2 (.inr ⟨hk, h1⟩), h2, h3⟩
    tl := fun k n z hn => by
      have hk : k ≠ id := fun e => by subst e; rw [hH] at hn; cases hn
      exact .inr ⟨n, (set_get hid).2 (.inr ⟨hk, hn⟩), Nat.le_refl _, fun _ => ⟨rfl, fun b arr e hi ha => ⟨arr, ha, rfl⟩⟩⟩
    sz := fun _ _ _ _ h => h
    dd := fun k ⟨x, h1, h2⟩ => by
      by_cases hk : k = id
      · exact ⟨.dead, (set_get hid).2 (.inl ⟨hk, rfl⟩), rfl⟩
      · exact ⟨x, (set_get hid).2 (.inr ⟨hk, h1⟩), h2⟩
    size := Nat.le_refl _
    os := rfl
    tape := rfl
    output := rfl
    hlen := by show _ ≤ (c.H.set id _).length; simp
    outer := fun b hb _ => rfl
    nw := fun k b x hx hl hi hb => by
      rcases (set_get hid).1 hx with ⟨rfl, rfl⟩ | ⟨_, hx⟩
      · cases hl
      · exact ⟨_, x, hx, hl, hi⟩ }

theorem HR.kill {c : Cfg} {id : Nat} {cs : List AV} (h : HR c) (hH : c.H[id]? = some (.cells cs)) : HR (c.kill id) := by
  have hid := get_lt hH
  exact {
    dom := fun k b hk => by show k < (c.H.set id .dead).length; simp; exact h.dom k b hk
    ex := fun k x hk hbx hlx => by
      rcases (set_get hid).1 hk with ⟨rfl, rfl⟩ | ⟨_, hk⟩
      · cases hlx
      · exact h.ex k x hk hbx hlx
    obj := fun k b x hk hik hlx => by
      rcases (set_get hid).1 hk with ⟨rfl, rfl⟩ | ⟨_, hk⟩
      · cases hlx
      · exact (h.obj k b x hk hik hlx).mono (Ext.kill h hH).toExt0 rfl
    inj := fun i j b x y h1 h2 l1 l2 i1 i2 => by
      rcases (set_get hid).1 h1 with ⟨rfl, rfl⟩ | ⟨_, g1⟩
      · cases l1
      · rcases (set_get hid).1 h2 with ⟨rfl, rfl⟩ | ⟨_, g2⟩
        · cases l2
        · exact h.inj i j b x y g1 g2 l1 l2 i1 i2
    bound := fun k b hk => h.bound k b hk }

/-- A slice over a box that is given up is a frozen slice. -/
theorem RelV.kill {c : Cfg} {m q off z len : Nat} {cs : List AV} {v : Value} (h : HR c) (hH : c.H[m + q]? = some (.cells cs)) (hle : off + len * z ≤ cs.length) (hr : RelV c (.os m q off z len) v) : RelV (c.kill (m + q)) (.sl .no z (chunkA z len (cs.drop off))) v := by
  have hid := get_lt hH
  have hx := Ext.kill h hH
  cases hr with
  | os hb hc =>
    rename_i b cap
    obtain ⟨o', g1, g2, g3⟩ := hb
    obtain ⟨arr, e, vs, h1, h2, h3, h4, h5⟩ := box_cells h hH g3
    have hcl := chunk_length z len (cs.drop off)
    obtain ⟨f1, f2⟩ : (chunkA z len ((cs.drop off).take (len * z))).flatten = (cs.drop off).take (len * z) ∧ ∀ x ∈ chunkA z len ((cs.drop off).take (len * z)), x.length = z :=
      chunk_flatten z len _ (by rw [List.length_take, List.length_drop]; omega)
    have hct : ∀ (m : Nat) (l : List AV), chunkA z m (l.take (m * z)) = chunkA z m l := by
      intro m
      induction m with
      | zero => intro l; rfl
      | succ m ih =>
        intro l
        have hm : (m + 1) * z = z + m * z := by rw [Nat.add_mul]; omega
        simp only [chunkA]
        rw [hm, List.take_take, Nat.min_eq_left (by omega), List.drop_take, Nat.add_sub_cancel_left, ih]
    rw [hct] at f1 f2
    have hvl : vs.length = cs.length := h3.1.symm
    have hdr := (h3.drop off).take (len * z)
    refine .sl (fun i j => (vs[off + (i * z + j)]?).getD undef) hcl hc f2 trivial (fun i j hi hj => ?_) (fun i j l y k1 k2 => ?_)
    · have hlt : i * z + j < len * z := by
        calc i * z + j < i * z + z := by omega
          _ = (i + 1) * z := by rw [Nat.add_mul]; omega
          _ ≤ len * z := Nat.mul_le_mul_right _ hi
      have hv : vs[off + (i * z + j)]? = some (vs[off + (i * z + j)]'(by omega)) := List.getElem?_eq_getElem (by omega)
      refine ⟨⟨b, off, none⟩, rfl, rfl, ?_⟩
      have e2 : (⟨b, off, none⟩ : Addr).add (i * z + j) = ⟨b, off + (i * z + j), none⟩ := by
        unfold Addr.add
        split
        · rename_i h0; rw [h0]; rfl
        · rfl
      rw [e2, hv]
      refine ⟨cell?_of h1 (h4 _ _ hv), ?_⟩
      rintro ⟨k, x, w1, w2, w3⟩
      rcases (set_get hid).1 w1 with ⟨rfl, rfl⟩ | ⟨hne, w1⟩
      · exact w3
      · have hl1 : x.live = true := by cases x <;> first | rfl | exact w3.elim
        exact hne (h.inj k (m + q) b _ _ w1 hH hl1 rfl w2 g3)
    · have k3 := flatten_get f2 k1 k2
      rw [f1, List.getElem?_take] at k3
      split at k3
      · rw [List.getElem?_drop] at k3
        obtain ⟨u, hu, hru⟩ := h3.get k3
        simp only [hu, Option.getD_some]
        exact hru.mono hx.toExt0
      · cases k3

section
variable {E : Env} {ro : Option Nat} {n : Nat} {K : Kont} {t : Slots} {H L : List AObj}

end
end Go.Gp

/- Appends whose outcome is the activation's own to write. -/
namespace Go.Gp
open Go.RowKit
set_option linter.unusedVariables false
set_option linter.unusedSimpArgs false

section
variable {E : Env} {ro : Option Nat} {n : Nat} {K : Kont} {t : Slots} {H L : List AObj} {ops : Array Oper} {o : Oper} {rest : List Oper} {d : Nat}

end

theorem Sub.os {m q m' q' off z len : Nat} (h : m + q = m' + q') : Sub (.os m q off z len) (.os m' q' off z len) := fun c x hx => by
  cases hx with
  | os hb hc => exact .os (by rw [← h]; exact hb) hc
theorem Sub.ptr {m q m' q' off : Nat} (h : m + q = m' + q') : Sub (.ptr m q off) (.ptr m' q' off) := fun c x hx => by
  cases hx with
  | ptr hb => exact .ptr (by rw [← h]; exact hb)

/-- An end that leaves all in sight. -/
theorem retK.all {E : Env} {rs : List ResultVar} {H L : List AObj} {R : AEnd → List AObj → Prop} {t : Slots} {x : AX} {as : List AV} {r : AV} (hx : x = .normal ∨ x = .ret) (h : resL L E.T t rs = some as)
    (hn : resN H.length t rs = rs.map (fun _ => H.length)) (hs : Sub (resV as) r) (hR : R (.ret r) (H ++ L)) : retK E rs H R x t (H ++ L) := by
  have h' : ∃ H2 L' as v, H ++ L = H2 ++ L' ∧ H2.length = H.length ∧ resL L' E.T t rs = some as ∧ resN H.length t rs = rs.map (fun _ => H.length) ∧ (∀ c x, RelV c (resV as) x → RelV c v x) ∧ RetR H R (.ret v) v (H ++ L) :=
    ⟨H, L, as, r, rfl, rfl, h, hn, hs, .all hR⟩
  rcases hx with rfl | rfl <;> exact h'
end Go.Gp

/- Function values that are called; loops over iterators. -/
namespace Go.Gp
open Go.RowKit
set_option linter.unusedVariables false
set_option linter.unusedSimpArgs false

theorem thenK.panic {K1 : Slots → List AObj → Prop} {K : Kont} {v : AV} {t : Slots} {H : List AObj} (h : K (.panic v) t H) : thenK K1 K (.panic v) t H := h
theorem blockK.panic {id : Nat} {K : Kont} {v : AV} {t : Slots} {H : List AObj} (h : K (.panic v) t H) : blockK id K (.panic v) t H := h

/-- Calling a function value. -/
def callVal (v : Value) (args : Array Value) : Sem Next := do
  let d ← Deferred.ofValue v args
  invoke d.target d.args

def UponV (P : Program) (Q : Ending → World → Prop) : Result Next → Prop
  | .ok (.enter f args) w => Calls P f args w Q
  | .ok (.value v) w => Q (.returned v) w
  | .ok (.round l f tmps assign body) w => RoundIn Fence.wide 0 P l f tmps assign body w Q
  | _ => False

/-- A function value, called with such arguments over such a heap, ends so. -/
structure AppA (E : Env) (fv : AV) (args : List AV) (H : List AObj) (R : AEnd → List AObj → Prop) : Prop where
  out : ∀ (c : Cfg) (v : Value) (vs : List Value), c.H = H → Ok E.G c → RelV c fv v → RelL c args vs → UponV E.P (PostC E.G c R) ((callVal v vs.toArray).run E.P c.w)

theorem PostC.mono {G : GEnv} {c : Cfg} {R R' : AEnd → List AObj → Prop} (hr : ∀ x H, R x H → R' x H) {e : Ending} {w : World} (h : PostC G c R e w) : PostC G c R' e w := by
  obtain ⟨ι, H, x, a1, a2, a3, a4⟩ := h
  exact ⟨ι, H, x, a1, a2, a3, hr x H a4⟩

theorem AppA.mono {E : Env} {fv : AV} {args : List AV} {H : List AObj} {R R' : AEnd → List AObj → Prop} (h : AppA E fv args H R) (hr : ∀ x H, R x H → R' x H) : AppA E fv args H R' := by
  refine ⟨?_⟩
  intro c v vs e1 e2 e3 e4
  have h' := h.out c v vs e1 e2 e3 e4
  unfold UponV at *
  split at h'
  · exact h'.mono fun e w => PostC.mono hr
  · exact PostC.mono hr h'
  · exact h'.mono fun e w => PostC.mono hr
  · exact h'.elim

theorem AppA.of_calls {E : Env} {g : FuncId} {caps args : List AV} {H : List AObj} {R : AEnd → List AObj → Prop} (h : CallsA E g (args ++ caps) H R) : AppA E (.func g caps) args H R := by
  refine ⟨?_⟩
  intro c v vs e1 e2 e3 e4
  cases e3 with
  | func ws hl hr =>
    have h' := h.out c (vs ++ ws) e1 e2 (e4.append ⟨hl, hr⟩)
    have hrun : (callVal (.func (.func g) #[] ws.toArray) vs.toArray).run E.P c.w = (callFunc g (vs ++ ws).toArray).run E.P c.w := by
      simp [callVal, Deferred.ofValue, invoke]
    rw [hrun]
    unfold UponC at h'
    unfold UponV
    split at h'
    · rename_i h2; rw [h2]; exact h'
    · rename_i h2; rw [h2]; exact h'
    · exact h'.elim

theorem Fc_rounds {ro : Option Nat} {P : Program} {l : Nat} {f : FuncId} {tmps : Array Value} {assign body : Code} {w : World} {R : Ending → World → Prop} :
    RoundIn (Fc ro) 0 P l f tmps assign body w R ↔ RoundIn Fence.wide 0 P l f tmps assign body w R := by
  cases ro with
  | none => exact Iff.rfl
  | some k => exact Iff.rfl

section rules
variable {E : Env} {ro : Option Nat} {n : Nat} {K : Kont} {t : Slots} {H L : List AObj} {ops : Array Oper} {o : Oper} {rest : List Oper}

/-- A call of a function value. -/
theorem WpOps.callV {d : Nat} {fv : AV} {f : Operand} {xs : List Operand} {ats : Array TypeId} {R : AEnd → List AObj → Prop}
    (hw : wantedA ops t o = some true) (hd : o.dst = some d) (hdn : Nat.blt d n = true) (hop : o.op = .call { callee := .value f, args := ⟨xs⟩, argTypes := ats }) (hf : evalA E.G t f = fv)
    (hc : AppA E fv (evalL E.G t xs) H R)
    (hk : ∀ x H', R x H' → match x with | .ret r => WpOps E ro n ops rest K ((d, r) :: t) H' | .panic v => K (.panic v) t H') : WpOps E ro n ops (o :: rest) K t H := by
  refine ⟨?_⟩
  intro cd c0 c a e1 e2 e3 e4 e5
  have hnd : notDefer o := fun cc e => by rw [hop] at e; cases e
  have hfr := eval_rel e3 e4 f
  rw [hf] at hfr
  have hargs := evalL_rel e3 e4 xs
  have hcall := hc.out c _ _ e2 e3 hfr hargs
  have hrun : (execOp a.eval o).run E.P c.w = (callVal (a.eval f) (xs.map a.eval).toArray).run E.P c.w := by
    simp [execOp, hop, resolve, callVal]
  refine wpListIn_of (wanted_eq e4 hw) hnd ?_
  rw [hrun]
  have hpost : ∀ (e : Ending) (w' : World), PostC E.G c R e w' → (match e, w' with
      | .returned v, w'' => (wpListIn (Fc ro) 0 E.P ops (Post E.G n (cd, E.marks) c0 K) rest) (a.put o.dst v) w''
      | .panicked chain, w'' => (Post E.G n (cd, E.marks) c0 K) (.panic chain) a w''
      | .outgrown, _ => LetsOut (Post E.G n (cd, E.marks) c0 K)) := by
    rintro e w' ⟨ι', H', x, a1, a2, a3, a4⟩
    cases e with
    | returned v' =>
      cases x with
      | panic v => exact a3.elim
      | ret r =>
        show wpListIn _ _ _ _ _ _ (a.put o.dst v') w'
        rw [hd]
        exact (hk _ _ a4).out cd c0 ⟨ι', H', w'⟩ _ (e1.trans a1) rfl a2 ((e4.mono a1).put hdn a3) (e5.mono a1 rfl)
    | panicked chain =>
      cases x with
      | ret r => exact a3.elim
      | panic v =>
        have := hk _ _ a4
        exact ⟨ι', H', t, .panic v, e1.trans a1, a2, e4.mono a1, e5.mono a1 rfl, a3, this⟩
    | outgrown => cases x <;> exact a3.elim
  revert hcall
  cases (callVal (a.eval f) (xs.map a.eval).toArray).run E.P c.w with
  | halt x w => intro h; exact h.elim
  | ok nx w =>
    cases nx <;> intro hcall <;> try exact hcall.elim
    case value v' =>
      rw [Oper.uponIn_value]
      exact hpost (.returned v') w hcall
    case enter f' args' =>
      rw [Oper.uponIn_enter]
      refine ⟨fun h => (by rw [Fc_depth] at h; simp at h), ?_⟩
      rw [Fc_calls]
      exact Calls.mono hcall hpost
    case round l f' tmps assign body =>
      rw [Oper.uponIn_round]
      refine ⟨fun h => (by rw [Fc_depth] at h; simp at h), ?_⟩
      exact (Fc_rounds.2 hcall).mono hpost
end rules

/-! ### One round -/
def putPs : List Tmp → List AV → Slots → Slots
  | p :: ps, a :: as, t => putPs ps as ((p, a) :: t)
  | _, _, t => t

theorem SR.putPs {c : Cfg} {n : Nat} : ∀ {ps : List Tmp} {as : List AV} {vs : List Value} {t : Slots} {a : Act}, SR c n t a → (∀ p ∈ ps, p < n) → ps.length = as.length → RelL c as vs →
    SR c n (putPs ps as t) { a with tmps := (ps.zip vs).foldl (fun tm (x : Tmp × Value) => tm.setIfInBounds x.1 x.2) a.tmps }
  | [], as, vs, t, a, s, _, _, _ => by simpa [Gp.putPs] using s
  | p :: ps, [], vs, t, a, s, _, hl, _ => by simp at hl
  | p :: ps, x :: as, [], t, a, s, _, _, hr => by have := hr.1; simp at this
  | p :: ps, x :: as, v :: vs, t, a, s, hp, hl, hr => by
    have h1 : SR c n ((p, x) :: t) (a.put (some p) v) := s.put (by simpa using hp p List.mem_cons_self) hr.head
    have := SR.putPs (ps := ps) h1 (fun q hq => hp q (List.mem_cons_of_mem _ hq)) (by simpa using hl) hr.tail
    simpa [Gp.putPs, Act.put] using this

/-- The heap behind a round, but for the record. -/
def roundK (id : Nat) (r : Loop) (ts : Slots) (Hx : List AObj) (R : AEnd → List AObj → Prop) : Kont := fun x t2 H2 =>
  ∃ (st : LoopState) (pend : Option Code) (H1 L : List AObj), H2 = H1 ++ L ∧ H1.length = Hx.length ∧ H1[id]? = some (.loop { r with state := .busy } ts) ∧
    (∀ (i : Nat) o, i ≠ id → H1[i]? = some o → Hx[i]? = some o ∨ OBd Hx.length o) ∧
    (match x with
      | .normal => pend = none ∧ st = .ready ∧ R (.ret (.bool true)) (H1.set id (.loop { r with state := st, pending := pend } ts))
      | .ret => pend = some .ret ∧ st = .done ∧ R (.ret (.bool false)) (H1.set id (.loop { r with state := st, pending := pend } ts))
      | .exit i => pend = some (.exit i) ∧ st = .done ∧ R (.ret (.bool false)) (H1.set id (.loop { r with state := st, pending := pend } ts))
      | .panic _ => False)

theorem run_getLoop {P : Program} {w : World} {l : Nat} {r : Loop} (h : w.heap[l]? = some (.loop r)) : (Instr.getLoop l).run P w = .ok r w := by
  simp [Instr.getLoop, getObj, Sem.run_bind, Sem.run, h, Result.andThen]

theorem run_endRound {P : Program} {w : World} {l : Nat} {r : Loop} (h : w.heap[l]? = some (.loop r)) (j : Option Code) :
    (Instr.endRound l j).run P w = .ok (.bool j.isNone) { w with heap := w.heap.setIfInBounds l (.loop { r with state := if j.isNone then .ready else .done, pending := j }) } := by
  simp [Instr.endRound, Instr.getLoop, getObj, setObj, Sem.run_bind, Sem.run, h, Result.andThen]

theorem run_beginRound {P : Program} {w : World} {l : Nat} {r : Loop} (h : w.heap[l]? = some (.loop r)) (hr : r.state = .ready) :
    (Instr.beginRound l).run P w = .ok () { w with heap := w.heap.setIfInBounds l (.loop { r with state := .busy }) } := by
  simp [Instr.beginRound, Instr.getLoop, getObj, setObj, Sem.run_bind, Sem.run, h, Result.andThen, hr]

theorem turned_setObj (w : World) (b : Nat) (o : Obj) (hne : ∀ arr e fr, w.heap[b]? ≠ some (.cells arr e fr)) : Turned w { w with heap := w.heap.setIfInBounds b o } b :=
  ⟨rfl, rfl, rfl, by simp, fun k hk => by simp [Array.getElem?_setIfInBounds, Ne.symm hk], fun n ⟨arr, e, fr, h1, h2⟩ => absurd h1 (hne arr e fr)⟩

/-- A record is turned. -/
theorem loop_upd {c : Cfg} (h : HR c) {id l : Nat} {r r' : Loop} {ts : Slots} (hH : c.H[id]? = some (.loop r ts)) (hi : c.ι id = some l) (hr : r'.tmps = r.tmps) :
    Ext c (c.upd id (.loop r' ts) { c.w with heap := c.w.heap.setIfInBounds l (.loop r') }) ∧ HR (c.upd id (.loop r' ts) { c.w with heap := c.w.heap.setIfInBounds l (.loop r') }) := by
  obtain ⟨h1, h2⟩ := h.obj id l _ hH hi rfl
  have hne : ∀ arr e fr, c.w.heap[l]? ≠ some (.cells arr e fr) := fun arr e fr h' => by rw [h1] at h'; cases h'
  have hx := Ext.upd (o' := .loop r' ts) h hH hi rfl rfl rfl rfl (fun _ => trivial) (turned_setObj c.w l (.loop r') hne)
  refine ⟨hx, HR.upd h hH hi rfl hx (turned_setObj _ _ _ hne) ⟨?_, fun i => ?_⟩⟩
  · show (c.w.heap.setIfInBounds l (.loop r'))[l]? = _
    rw [Array.getElem?_setIfInBounds, if_pos rfl, if_pos (block_lt h1)]
  · rw [hr]; exact (h2 i).mono hx.toExt0

theorem AppA.round {E : Env} {m j : Nat} {r : Loop} {ts : Slots} {args : List AV} {Hx : List AObj} {R : AEnd → List AObj → Prop} {n : Nat} (ps : List Tmp)
    (hrec : Hx[m + j]? = some (.loop r ts)) (hst : r.state = .ready) (hn : r.tmps.size = n) (hps : r.params = ps.toArray) (hpl : ps.length = args.length) (hpn : ∀ p ∈ ps, p < n)
    (h : ∀ l, WpA E (some l) n r.assign (fun x t1 H1 => x = .normal ∧ H1[m + j]? = some (.loop r ts) ∧
      WpA E (some l) n r.body (roundK (m + j) r ts Hx R) t1 (H1.set (m + j) (.loop { r with state := .busy } ts))) (putPs ps args ts) Hx) : AppA E (.yld m j) args Hx R := by
  refine ⟨?_⟩
  intro c v vs e1 e2 e3 e4
  cases e3 with
  | yld hb =>
    rename_i l
    obtain ⟨o, ho, hbx, hι⟩ := hb
    have ho' : c.H[m + j]? = some (.loop r ts) := by rw [e1]; exact hrec
    obtain ⟨h1, h2⟩ := e2.hr.obj _ l _ ho' hι rfl
    have hlen : vs.length = ps.length := by rw [hpl, e4.1]
    have hrun : (callVal (.func (.yield l) #[] #[]) vs.toArray).run E.P c.w = .ok (.round l r.fn ((ps.zip vs).foldl (fun tm (x : Tmp × Value) => tm.setIfInBounds x.1 x.2) r.tmps) r.assign r.body) c.w := by
      simp only [callVal, Deferred.ofValue, invoke, Sem.run_bind, Sem.run_pure, Result.andThen_ok]
      simp only [Instr.yield, Sem.run_bind, Array.empty_append]
      rw [run_getLoop h1]
      simp only [Result.andThen_ok, hps]
      rw [if_neg (by simp [hlen])]
      simp only [Sem.run_pure, Sem.run_bind, Result.andThen_ok]
      have : (ps.toArray.zip vs.toArray) = (ps.zip vs).toArray := by simp
      rw [this]
      simp
    rw [hrun]
    show RoundIn Fence.wide 0 E.P l r.fn _ r.assign r.body c.w (PostC E.G c R)
    refine roundIn_of_wpIn trivial ?_
    have hsr : SR c n (putPs ps args ts) { tmps := (ps.zip vs).foldl (fun tm (x : Tmp × Value) => tm.setIfInBounds x.1 x.2) r.tmps, defers := [] } :=
      SR.putPs (a := { tmps := r.tmps, defers := [] }) ⟨hn, h2⟩ hpn hpl e4
    refine wpIn_mono ((h l).out (c, []) c c _ (Ext.refl c) e1 e2 hsr ⟨[], rfl, fun _ => rfl, List.nodup_nil, Nat.le_refl _, by simp⟩) ?_
    rintro e a1 w1 ⟨ι1, H1, t1, x1, k1, k2, k3, k4, k5, k6, k7, k8⟩
    subst k6
    cases e <;> try exact k5.elim
    have hι1 : ι1 (m + j) = some l := (k1.bx (m + j) l ⟨_, ho, hbx, hι⟩).choose_spec.2.2
    obtain ⟨h3, h4⟩ := k2.hr.obj (m + j) l _ k7 hι1 rfl
    refine ⟨_, run_beginRound h3 hst, ?_⟩
    obtain ⟨g1, g2⟩ := loop_upd (c := ⟨ι1, H1, w1⟩) (r' := { r with state := .busy }) k2.hr k7 hι1 rfl
    refine wpIn_mono (k8.out (c, []) c (Cfg.upd ⟨ι1, H1, w1⟩ (m + j) (.loop { r with state := .busy } ts) _) a1 (k1.trans g1) rfl (k2.step g1 g2) (k3.mono g1) (k4.mono g1 rfl)) ?_
    rintro e a2 w2 ⟨ι2, H2, t2, x2, q1, q2, q3, q4, q5, st, pend, G1, L, q6, q7, q8, q9, q10⟩
    subst q6
    have hlt : m + j < G1.length := get_lt q8
    have q8' : (G1 ++ L)[m + j]? = some (.loop { r with state := .busy } ts) := by rw [List.getElem?_append_left hlt]; exact q8
    have hι2 : ι2 (m + j) = some l := (q1.bx (m + j) l ⟨_, ho, hbx, hι⟩).choose_spec.2.2
    obtain ⟨h5, h6⟩ := q2.hr.obj (m + j) l _ q8' hι2 rfl
    have fin : ∀ (jmp : Option Code) (b : Bool), jmp.isNone = b → pend = jmp → st = (if jmp.isNone then .ready else .done) → R (.ret (.bool b)) (G1.set (m + j) (.loop { r with state := st, pending := pend } ts)) →
        ∃ v w', (Instr.endRound l jmp).run E.P w2 = .ok v w' ∧ PostC E.G c R (.returned v) w' := by
      rintro jmp b hb rfl rfl hR
      refine ⟨_, _, run_endRound h5 _, ?_⟩
      obtain ⟨u1, u2⟩ := loop_upd (c := ⟨ι2, G1 ++ L, w2⟩) (r' := { r with state := if pend.isNone then .ready else .done, pending := pend }) q2.hr q8' hι2 rfl
      have hx := q1.trans u1
      refine RetR.use hx e2 (q2.step u1 u2) (e := .ret (.bool b)) (v := .bool b) ?_ (fun c'' _ => by rw [hb]; exact RelV.bool)
      subst e1
      refine .cut (G1.set (m + j) (.loop { r with state := if pend.isNone then .ready else .done, pending := pend } ts)) L ?_ (by simpa using q7) ?_ .bool hR
      · show (G1 ++ L).set _ _ = _
        rw [List.set_append_left _ _ hlt]
      · intro i o hi
        by_cases hij : i = m + j
        · subst hij
          rw [List.getElem?_set_self hlt] at hi
          injection hi with hi
          subst hi
          have := (e2.hr.obd hrec).2.2.1 r ts rfl
          exact .inr ⟨fun cs e => (by cases e), fun es k e => (by cases e), fun r' t' e k => (by injection e with _ e; subst e; exact this k), fun _ _ _ _ _ e => (by cases e)⟩
        · rw [List.getElem?_set_ne (fun e => hij e.symm)] at hi
          exact q9 i o hij hi
    cases x2 with
    | normal =>
      cases e <;> try exact q5.elim
      exact fin none true rfl q10.1 q10.2.1 q10.2.2
    | ret =>
      cases e <;> try exact q5.elim
      exact fin (some .ret) false rfl q10.1 q10.2.1 q10.2.2
    | exit i =>
      cases e <;> try exact q5.elim
      have : i = _ := q5
      subst this
      exact fin (some (.exit i)) false rfl q10.1 q10.2.1 q10.2.2
    | panic v => exact q10.elim

end Go.Gp

/- Loops over iterators: the statement. -/
namespace Go.Gp
open Go.RowKit
set_option linter.unusedVariables false
set_option linter.unusedSimpArgs false

section rules
variable {E : Env} {n : Nat} {K : Kont} {t : Slots} {H : List AObj}

end rules

/-! ### Iterators over items -/
structure Ylds (E : Env) (y : AV) {σ : Type} (Hf : σ → List AObj) (f : σ → List AV → Bool × σ) (ok : σ → Prop) (items : List (List AV)) : Prop where
  app : ∀ s x X, ok s → x ∈ items → AppA E y x (Hf s ++ X) (fun e H' => e = .ret (.bool (f s x).1) ∧ H' = Hf (f s x).2 ++ X)
  next : ∀ s x, ok s → x ∈ items → (f s x).1 = true → ok (f s x).2
  len : ∀ s s', (Hf s).length = (Hf s').length
  tr : ∀ s s' X, TrOk (Hf s ++ X) (Hf s' ++ X)

/-- Items of any kind: what is handed on for one, what of memory is told with it. -/
structure YldsG (E : Env) (y : AV) {σ ι : Type} (args : ι → List AV) (pr : ι → List AObj → Prop) (Hf : σ → List AObj) (f : σ → ι → Bool × σ) (ok : σ → Prop) (P : ι → Prop) : Prop where
  app : ∀ s x X, ok s → P x → pr x (Hf s ++ X) → AppA E y (args x) (Hf s ++ X) (fun e H' => e = .ret (.bool (f s x).1) ∧ H' = Hf (f s x).2 ++ X)
  next : ∀ s x, ok s → P x → (f s x).1 = true → ok (f s x).2
  len : ∀ s s', (Hf s).length = (Hf s').length
  tr : ∀ s s' X, TrOk (Hf s ++ X) (Hf s' ++ X)
theorem Ylds.sub {E : Env} {y : AV} {σ : Type} {Hf : σ → List AObj} {f : σ → List AV → Bool × σ} {ok : σ → Prop} {items items' : List (List AV)} (h : Ylds E y Hf f ok items) (hs : ∀ x ∈ items', x ∈ items) : Ylds E y Hf f ok items' :=
  ⟨fun s x X h1 h2 => h.app s x X h1 (hs x h2), fun s x h1 h2 => h.next s x h1 (hs x h2), h.len, h.tr⟩

section ranges
variable {E : Env} {n : Nat} {K : Kont} {t : Slots}

end ranges

end Go.Gp



/- Rows that came in; nil handed on as a row; what is cut off behind a call. -/
namespace Go.Gp
open Go.RowKit
set_option linter.unusedVariables false
set_option linter.unusedSimpArgs false

section
variable {E : Env} {ro : Option Nat} {n : Nat} {K : Kont} {t : Slots} {H H' H1 L : List AObj} {ops : Array Oper} {o : Oper} {l rest : List Oper} {cl : List Nat} {k d : Nat} {av : AV} {Kc : Slots → List AObj → Prop}

end

/-- A nil that is handed on as a row of its own. -/
theorem CallsA.adopt {E : Env} {g : Nat} {us ws : List AV} {z z0 : Nat} {H : List AObj} {R : AEnd → List AObj → Prop}
    (h : CallsA E g (us ++ ([.sl (.row H.length 0) z []] ++ ws)) (H ++ [.tail 0 z]) R) : CallsA E g (us ++ ([.sl .full z0 []] ++ ws)) H R := by
  refine ⟨?_⟩
  intro c vs e1 e2 e3
  subst e1
  have hx := Ext.adopt c z e2.hr
  have hh := e2.hr.adopt z
  have hlen : us.length ≤ vs.length := by rw [← e3.1]; simp
  have h1 : RelL (c.adopt z) (us ++ ([.sl (.row c.H.length 0) z []] ++ ws)) vs := by
    refine ⟨by have := e3.1; simpa using this, fun i a v ha hv => ?_⟩
    by_cases hi : i = us.length
    · subst hi
      rw [List.getElem?_append_right (Nat.le_refl _), Nat.sub_self] at ha
      injection ha with ha
      subst ha
      refine RelV.adopt (z0 := z0) e2.hr (by simp) (e3.2 us.length _ v ?_ hv)
      rw [List.getElem?_append_right (Nat.le_refl _), Nat.sub_self]
      rfl
    · refine (e3.2 i a v ?_ hv).mono hx.toExt0
      rcases Nat.lt_or_ge i us.length with hlt | hge
      · rw [List.getElem?_append_left hlt] at ha ⊢; exact ha
      · rw [List.getElem?_append_right hge] at ha ⊢
        obtain ⟨k, hk⟩ : ∃ k, i - us.length = k + 1 := ⟨i - us.length - 1, by omega⟩
        rw [hk] at ha ⊢
        exact ha
  have h2 := h.out (c.adopt z) vs rfl (e2.step hx hh) h1
  have hfin : ∀ e w, PostC E.G (c.adopt z) R e w → PostC E.G c R e w := by
    rintro e w ⟨ι, H', x, a1, a2, a3, a4⟩
    exact ⟨ι, H', x, hx.trans a1, a2, a3, a4⟩
  show UponC E.P _ ((callFunc g vs.toArray).run E.P c.w)
  have hw : (c.adopt z).w = c.w := rfl
  rw [hw] at h2
  unfold UponC at h2 ⊢
  split at h2
  · exact Calls.mono h2 hfin
  · exact hfin _ _ h2
  · exact h2.elim

/-- Behind a call: what was laid is cut off, less is said of the result. -/
theorem CallsA.cut {E : Env} {g : Nat} {as : List AV} {H H1 : List AObj} {r : AV} (hl : H1.length = H.length) (ht : TrOk H H1) (hb : Bd H.length r)
    (h : CallsA E g as H (fun e H' => ∃ L r0, H' = H1 ++ L ∧ e = .ret r0 ∧ Sub r0 r)) : CallsA E g as H (fun e H' => H' = H1 ∧ e = .ret r) := by
  refine ⟨?_⟩
  intro c vs e1 e2 e3
  have h2 := h.out c vs e1 e2 e3
  subst e1
  have hfin : ∀ e w, PostC E.G c (fun e H' => ∃ L r0, H' = H1 ++ L ∧ e = .ret r0 ∧ Sub r0 r) e w → PostC E.G c (fun e H' => H' = H1 ∧ e = .ret r) e w := by
    rintro e w ⟨ι, H', x, a1, a2, a3, L, r0, rfl, rfl, hs⟩
    cases e with
    | panicked _ => exact a3.elim
    | outgrown => exact a3.elim
    | returned v =>
      refine RetR.use (c' := ⟨ι, H1 ++ L, w⟩) (v := r) (e := .ret r) a1 e2 a2 (.cut H1 L rfl hl ht hb ⟨rfl, rfl⟩) ?_
      have hr : RelV ⟨ι, H1 ++ L, w⟩ r v := hs _ _ a3
      rintro c'' (rfl | ⟨rfl, hbd⟩)
      · exact hr
      · exact hr.trunc hbd
  unfold UponC at h2 ⊢
  split at h2
  · exact Calls.mono h2 hfin
  · exact hfin _ _ h2
  · exact h2.elim

theorem grow {H A L X : List AObj} (h : X = A ++ L) : H ++ X = (H ++ A) ++ L := by rw [h, List.append_assoc]

theorem Agree.cons {d : Nat} {v : AV} : ∀ {T t : Slots}, (∀ p ∈ T, p.1 ≠ d) → Agree T t → Agree T ((d, v) :: t)
  | [], t, _, _ => trivial
  | (k, u) :: r, t, hd, h => by
    refine ⟨?_, Agree.cons (fun p hp => hd p (List.mem_cons_of_mem _ hp)) h.2⟩
    show (bif Nat.beq d k then v else look t k) = u
    have : Nat.beq d k = false := by
      cases hb : Nat.beq d k with
      | false => rfl
      | true => exact absurd (Nat.eq_of_beq_eq_true hb).symm (hd _ List.mem_cons_self)
    rw [this]
    exact h.1

/-- A loop whose state is known at each round. -/
theorem WpA.loopFor {E : Env} {ro : Option Nat} {n : Nat} {K : Kont} {t : Slots} {H : List AObj} {body : Code} (N : Nat) (T : Nat → Slots) (Hf : Nat → List AObj) (ok : Nat → Prop) (h0 : ok 0) (hT : Agree (T 0) t) (hH : H = Hf 0)
    (hr : ∀ i, i < N → ok i → WpA E ro n body (thenK (fun t' H' => ok (i + 1) ∧ Agree (T (i + 1)) t' ∧ H' = Hf (i + 1)) K) (T i) (Hf i))
    (hx : ok N → WpA E ro n body (thenK (fun _ _ => False) K) (T N) (Hf N)) : WpA E ro n (.loop body) K t H := by
  refine WpA.loopS (α := Nat) T Hf (fun i => i ≤ N ∧ ok i) (fun i => N - i) 0 ⟨Nat.zero_le _, h0⟩ hT hH ?_
  rintro i ⟨hi, ho⟩
  rcases Nat.lt_or_ge i N with hlt | hge
  · refine (hr i hlt ho).mono fun x t' H' h => ?_
    cases x with
    | normal => exact ⟨i + 1, ⟨by omega, h.1⟩, by omega, h.2.1, h.2.2⟩
    | exit i => exact h
    | ret => exact h
    | panic v => exact h
  · have : i = N := by omega
    subst this
    refine (hx ho).mono fun x t' H' h => ?_
    cases x with
    | normal => exact h.elim
    | exit i => exact h
    | ret => exact h
    | panic v => exact h

/-- What a round that goes on leaves: the next state, and what it has laid. -/
def goOn (T : Slots) (H1 : List AObj) (ok : Prop) (K : Kont) : Kont
  | .normal, t', H' => ok ∧ Agree T t' ∧ ∃ L, H' = H1 ++ L
  | x, t', H' => K x t' H'

/-- .. what a round lays is left out of sight. -/
theorem WpA.loopG {E : Env} {ro : Option Nat} {n : Nat} {K : Kont} {t : Slots} {H : List AObj} {body : Code} (N : Nat) (T : Nat → Slots) (Hf : Nat → List AObj) (ok : Nat → Prop) (h0 : ok 0) (hT : Agree (T 0) t) (hH : H = Hf 0)
    (hl : ∀ i, i < N → (Hf (i + 1)).length = (Hf i).length) (htr : ∀ i, i < N → ok i → TrOk (Hf i) (Hf (i + 1))) (hbd : ∀ i, i < N → ok i → BdS (Hf i).length (T (i + 1)))
    (hr : ∀ i, i < N → ok i → WpA E ro n body (goOn (T (i + 1)) (Hf (i + 1)) (ok (i + 1)) K) (T i) (Hf i))
    (hx : ok N → WpA E ro n body (thenK (fun _ _ => False) K) (T N) (Hf N)) (hT' : ∀ i, Agree (T i) (T i)) : WpA E ro n (.loop body) K t H := by
  refine WpA.loopFor N T Hf ok h0 hT hH (fun i hi ho => ?_) hx
  refine WpA.scope ((hr i hi ho).mono fun x t' H' h => ?_)
  cases x with
  | normal =>
    obtain ⟨h1, h2, L, rfl⟩ := h
    exact .inr ⟨Hf (i + 1), L, T (i + 1), rfl, hl i hi, htr i hi ho, h2, hbd i hi ho, fun v e => (by cases e), h1, hT' (i + 1), rfl⟩
  | exit i => exact .inl h
  | ret => exact .inl h
  | panic v => exact .inl h

/-- Where ways meet again. -/
theorem WpA.joinS {E : Env} {ro : Option Nat} {n : Nat} {K : Kont} {t : Slots} {H : List AObj} {code rest : Code} (T : Slots) (H1 : List AObj)
    (h : WpA E ro n code (thenK (fun t' H' => Agree T t' ∧ H' = H1) K) t H) (hrest : WpA E ro n rest K T H1) : WpA E ro n code (thenK (WpA E ro n rest K) K) t H :=
  h.mono fun x t' H' h => by
    cases x with
    | normal => obtain ⟨h1, rfl⟩ := h; exact hrest.weak h1
    | exit i => exact h
    | ret => exact h
    | panic v => exact h

end Go.Gp

/- Rows of bytes. -/
namespace Go.Gp
open Go.RowKit
set_option linter.unusedVariables false
set_option linter.unusedSimpArgs false

theorem u8wrap (n : Nat) : IntKind.u8.wrap (n : Int) = (((UInt8.ofNat n).toNat : Nat) : Int) := by
  rw [UInt8.toNat_ofNat']
  simp only [IntKind.wrap, IntKind.bits, IntKind.signed]
  simp
theorem row1 (n : Nat) : [[AV.int .u8 (IntKind.u8.wrap (n : Int))]] = [UInt8.ofNat n].map byteRow := by rw [u8wrap]; rfl

theorem WpA.heap {E : Env} {ro : Option Nat} {n : Nat} {K : Kont} {t : Slots} {H H' : List AObj} {code : Code} (h : H = H') (hw : WpA E ro n code K t H') : WpA E ro n code K t H := by rw [h]; exact hw

/-- Less is known of the arguments than there is. -/
theorem CallsA.subL {E : Env} {g : Nat} {us vs : List AV} {H : List AObj} {R : AEnd → List AObj → Prop} (h : SubL us vs) (hc : CallsA E g vs H R) : CallsA E g us H R :=
  ⟨fun c xs e1 e2 e3 => hc.out c xs e1 e2 (h.rel e3)⟩
theorem SubL.refl : ∀ us : List AV, SubL us us
  | [] => trivial
  | u :: us => ⟨Sub.refl u, SubL.refl us⟩

theorem obd_tail {n a b : Nat} : OBd n (.tail a b) := ⟨fun cs e => (by cases e), fun es k e => (by cases e), fun r t e => (by cases e), fun _ _ _ _ _ e => (by cases e)⟩
theorem obd_cells {n : Nat} {cs : List AV} (h : ∀ a ∈ cs, Bd n a) : OBd n (.cells cs) := ⟨fun cs e => (by injection e with e; subst e; exact h), fun es k e => (by cases e), fun r t e => (by cases e), fun _ _ _ _ _ e => (by cases e)⟩
theorem TrOk.set1 {H : List AObj} {k : Nat} {o' : AObj} (h : OBd H.length o') : TrOk H (H.set k o') := fun i o hi => by
  rw [List.getElem?_set] at hi
  split at hi
  · split at hi
    · injection hi with hi; subst hi; exact .inr h
    · cases hi
  · exact .inl hi
end Go.Gp



/- Statements whose order of evaluation is open and in which an operation dies. -/
namespace Go.Gp
open Go.RowKit
set_option linter.unusedVariables false
set_option linter.unusedSimpArgs false

structure DiesH (E : Env) (ro : Option Nat) (n : Nat) (o : Oper) (f : SFn) (H : List AObj) (P : List AObj → Prop) (v : AV) : Prop where
  nd : notDefer o
  out : ∀ (c : Cfg) (a : Act) (K : Act → World → Prop) (Q : Exit → Act → World → Prop), c.H = H → Ok E.G c → SF c n f a →
    (∀ ι' H' w' u, Ext c ⟨ι', H', w'⟩ → Ok E.G ⟨ι', H', w'⟩ → RelV ⟨ι', H', w'⟩ v u → P H' → Q (.panic [{ v := u, recovered := false }]) a w') → o.uponIn (Fc ro) 0 E.P a K Q ((execOp a.eval o).run E.P c.w)

section
variable {E : Env} {ro : Option Nat} {n : Nat} {ids : List Nat} {md : Region.Mode} {ops : Array Oper} {cl : List Nat} {P : List AObj → Prop} {v : AV}

def DieP (E : Env) (ro : Option Nat) (n : Nat) (ops : Array Oper) (k : Nat) (o : Oper) (f : SFn) (H : List AObj) (P : List AObj → Prop) (v : AV) : Prop :=
  k = 3 ∧ wantedF ops f o = some true ∧ DiesH E ro n o (restr (o.looksAt ops) f) H P v

theorem DieP.congr {k : Nat} {o : Oper} {f f' : SFn} {H : List AObj} (h : DieP E ro n ops k o f H P v) (he : ∀ d ∈ o.looksAt ops, f' d = f d) : DieP E ro n ops k o f' H P v := by
  have h1 := wantedF_congr (f := f) (f' := f') (ops := ops) (o := o) he
  have h2 : restr (o.looksAt ops) f' = restr (o.looksAt ops) f := by
    funext i
    unfold restr
    split
    · rename_i hi; exact he i hi
    · rfl
  unfold DieP at *
  rw [h1, h2]
  exact h

def chainD (E : Env) (ro : Option Nat) (n : Nat) (ids : List Nat) (ops : Array Oper) (cl : List Nat) (p : Nat) (P : List AObj → Prop) (v : AV) : List Nat → SFn → List AObj → Prop
  | [], f, H => ∃ o, ops[p]? = some o ∧ DieP E ro n ops (cl.getD p 2) o f H P v
  | i :: r, f, H => ∃ o av H', ops[i]? = some o ∧ StepH E ro n ids ops (cl.getD i 2) o f H H' av ∧ chainD E ro n ids ops cl p P v r (putF o.dst av f) H'

theorem chainD_less {p : Nat} : ∀ (l : List Nat) {f f' : SFn} {H : List AObj}, Less f' f → chainD E ro n ids ops cl p P v l f' H → chainD E ro n ids ops cl p P v l f H
  | [], f, f', H, hl, ⟨o, ho, h1, h2, h3⟩ => ⟨o, ho, h1, wantedF_less hl h2, ⟨h3.nd, fun c a K Q e1 e2 e3 e4 => h3.out c a K Q e1 e2 (e3.less (hl.restr _)) e4⟩⟩
  | i :: r, f, f', H, hl, ⟨o, av, H', ho, hs, hc⟩ => ⟨o, av, H', ho, hs.less hl, chainD_less r (hl.put o.dst av) hc⟩

/-- The walk up to the operation that dies. -/
inductive LexD (E : Env) (ro : Option Nat) (n : Nat) (ids : List Nat) (ops : Array Oper) (cl : List Nat) (p : Nat) (P : List AObj → Prop) (v : AV) : List Nat → Slots → List AObj → Prop
  | die {o : Oper} {t : Slots} {H : List AObj} (ho : ops[p]? = some o) (h : DieP E ro n ops (cl.getD p 2) o (look t) H P v) : LexD E ro n ids ops cl p P v [] t H
  | cons {i : Nat} {r : List Nat} {o : Oper} {t : Slots} {H : List AObj} (av : AV) (H' : List AObj) (ho : ops[i]? = some o) (hs : StepH E ro n ids ops (cl.getD i 2) o (look t) H H' av) (h : LexD E ro n ids ops cl p P v r (putS o.dst av t) H') : LexD E ro n ids ops cl p P v (i :: r) t H
  | weak {r : List Nat} {t t' : Slots} {H : List AObj} (hl : Less (look t') (look t)) (h : LexD E ro n ids ops cl p P v r t' H) : LexD E ro n ids ops cl p P v r t H

theorem LexD.chain {p : Nat} {r : List Nat} {t : Slots} {H : List AObj} (h : LexD E ro n ids ops cl p P v r t H) : chainD E ro n ids ops cl p P v r (look t) H := by
  induction h with
  | die ho h => exact ⟨_, ho, h⟩
  | cons av H' ho hs h ih => rw [look_putS] at ih; exact ⟨_, av, H', ho, hs, ih⟩
  | weak hl h ih => exact chainD_less _ hl ih

section rules
variable {t : Slots} {H H' L : List AObj} {o : Oper} {r : List Nat} {i p d : Nat} {av : AV}

theorem LexD.p0 (ho : ops[i]? = some o) (hw : wantedA ops t o = some true) (hd : o.dst = some d) (hdn : Nat.blt d n = true) (hc : cl.getD i 2 = 0) (h : ∀ H0, P1 E n H0 H0 o (cutT (o.looksAt ops) t) av)
    (hk : LexD E ro n ids ops cl p P v r ((d, av) :: t) H) : LexD E ro n ids ops cl p P v (i :: r) t H :=
  .cons av H ho ⟨dst_some hd hdn, .inl ⟨hw, by rw [hc]; exact ⟨rfl, fun H0 => (h H0).does⟩⟩⟩ (by rw [hd]; exact hk)

theorem LexD.p4 (ho : ops[i]? = some o) (hw : wantedA ops t o = some true) (hd : o.dst = some d) (hdn : Nat.blt d n = true) (hc : cl.getD i 2 = 4) (h : ∀ H0, Like ids H H0 → P1 E n H0 H0 o (cutT (o.looksAt ops) t) av)
    (hk : LexD E ro n ids ops cl p P v r ((d, av) :: t) H) : LexD E ro n ids ops cl p P v (i :: r) t H :=
  .cons av H ho ⟨dst_some hd hdn, .inl ⟨hw, by rw [hc]; exact ⟨rfl, fun H0 h0 => (h H0 h0).does⟩⟩⟩ (by rw [hd]; exact hk)

theorem LexD.op0 (av : AV) (ho : ops[i]? = some o) (hw : wantedA ops t o = some true) (hd : o.dst = some d) (hdn : Nat.blt d n = true) (hc : cl.getD i 2 = 0) (hv : valA E t [] o.op = some av) (hb : ∀ n0, baseN E n0 t o.op = n0)
    (hk : LexD E ro n ids ops cl p P v r ((d, av) :: t) H) : LexD E ro n ids ops cl p P v (i :: r) t H :=
  .p0 ho hw hd hdn hc (fun H0 => by
    have := P1.op (E := E) (n := n) (o := o) (t := cutT (o.looksAt ops) t) (H := H0) (L := []) (av := av) (by rw [valA_congr fun x hx => ⟨evalA_cut hx, evalO_cut hx⟩]; exact hv) (by rw [baseN_congr fun x hx => evalA_cut hx]; exact hb _)
    rwa [List.append_nil] at this) hk

theorem LexD.load4 {ty j off : Nat} {ti : TI} {q : Operand} {cs : List AV} (av : AV) (ho : ops[i]? = some o) (hw : wantedA ops t o = some true) (hd : o.dst = some d) (hdn : Nat.blt d n = true) (hc : cl.getD i 2 = 4) (hop : o.op = .load ty q)
    (hp : evalA E.G t q = .ptr H.length j off) (hid : H.length + j ∈ ids) (hL : L[j]? = some (.cells cs)) (hi : lookT E.T ty = some ti) (hle : Nat.ble (off + ti.sz) cs.length = true) (hv : varA ti (cs.drop off) = some av)
    (hk : LexD E ro n ids ops cl p P v r ((d, av) :: t) (H ++ L)) : LexD E ro n ids ops cl p P v (i :: r) t (H ++ L) :=
  .p4 ho hw hd hdn hc (fun H0 h0 => .loadAt hop (by rw [evalA_cut (by rw [hop]; simp [Op.operands])]; exact hp) (h0 _ hid _ (app_get rfl hL)) hi hle hv) hk

theorem LexD.call {g : Nat} {caps : List AV} {f : Operand} {xs : List Operand} {ats : Array TypeId}
    (ho : ops[p]? = some o) (hw : wantedA ops t o = some true) (hc : cl.getD p 2 = 3) (hop : o.op = .call { callee := .value f, args := ⟨xs⟩, argTypes := ats }) (hf : evalA E.G t f = .func g caps)
    (hcall : CallsA E g (evalL E.G t xs ++ caps) H (fun e H' => P H' ∧ e = .panic v)) : LexD E ro n ids ops cl p P v [] t H := by
  refine .die ho ⟨hc, ?_, ?_⟩
  · have : wantedF ops (look t) o = wantedA ops t o := rfl
    rw [this]; exact hw
  · have hnd : notDefer o := fun cc e => by rw [hop] at e; cases e
    refine ⟨hnd, fun c a K Q e2 e3 e4 hK => ?_⟩
    rw [← look_cut_fn] at e4
    have e4 := e4.sr
    have hfr := eval_rel e3 e4 f
    have hmem : ∀ x, x = f ∨ x ∈ xs → x ∈ o.op.operands := fun x hx => by
      rw [hop]
      simp only [Op.operands, Call.operands]
      rcases hx with rfl | hx <;> simp [*]
    rw [evalA_cut (hmem f (.inl rfl)), hf] at hfr
    have hargs0 := evalL_rel e3 e4 xs
    rw [evalL_congr fun x hx => evalA_cut (hmem x (.inr hx))] at hargs0
    generalize hv : a.eval f = v' at hfr
    cases hfr with
    | func ws hl hr =>
      have hargs := hargs0.append (bs := caps) (us := ws) ⟨hl, hr⟩
      have hcall := hcall.out c _ e2 e3 hargs
      have hrun : (execOp a.eval o).run E.P c.w = (callFunc g (xs.map a.eval ++ ws).toArray).run E.P c.w := by
        simp [execOp, hop, resolve, hv, Deferred.ofValue, invoke]
      rw [hrun]
      revert hcall
      cases (callFunc g (xs.map a.eval ++ ws).toArray).run E.P c.w with
      | halt x w => intro h; exact h.elim
      | ok nx w =>
        cases nx <;> intro hcall <;> try exact hcall.elim
        case value v' =>
          obtain ⟨ι', H', x, a1, a2, a3, a4, rfl⟩ := hcall
          exact a3.elim
        case enter f' args' =>
          rw [Oper.uponIn_enter]
          refine ⟨fun h => (by rw [Fc_depth] at h; simp at h), ?_⟩
          rw [Fc_calls]
          refine Calls.mono hcall ?_
          rintro e w' ⟨ι', H', x, a1, a2, a3, a4, rfl⟩
          cases e with
          | returned v' => exact a3.elim
          | outgrown => exact a3.elim
          | panicked chain =>
            obtain ⟨u, rfl, hu⟩ := a3
            exact hK ι' H' w' u a1 a2 hu a4
end rules
end
theorem Like.one {H L L' : List AObj} {j : Nat} (h : ∀ ob, L[j]? = some ob → L'[j]? = some ob) : Like [H.length + j] (H ++ L) (H ++ L') := fun i hi ob ho => by
  have := List.mem_singleton.1 hi
  subst this
  rw [List.getElem?_append_right (by omega), Nat.add_sub_cancel_left] at ho ⊢
  exact h ob ho
end Go.Gp
