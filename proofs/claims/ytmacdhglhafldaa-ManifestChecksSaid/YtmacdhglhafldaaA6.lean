/- Boxes, calls. -/
import Derived.Test.YtmacdhglhafldaaA5
namespace Go.Gp
open Go.RowKit
set_option linter.unusedVariables false
set_option linter.unusedSimpArgs false

theorem heap_alloc_size (w : World) (o : Obj) : (w.alloc o).heap.size = w.heap.size + 1 := by simp
theorem heap_alloc_lt (w : World) (o : Obj) {k : Nat} (h : k < w.heap.size) : (w.alloc o).heap[k]? = w.heap[k]? := Below.heap_alloc w o k h
theorem heap_alloc_eq (w : World) (o : Obj) : (w.alloc o).heap[w.heap.size]? = some o := by
  show (w.heap.push o)[w.heap.size]? = _
  simp
theorem cell?_alloc_lt (w : World) (o : Obj) {p : Addr} {v : Value} (h : w.cell? p = some v) : (w.alloc o).cell? p = some v := by
  have hlt := cell_lt h
  unfold World.cell? at h ⊢
  rw [heap_alloc_lt w o hlt]
  exact h

/-- A new block that nobody writes. -/
def Cfg.push (c : Cfg) (ob : Obj) : Cfg := { c with w := c.w.alloc ob }
/-- A new block under a new id. -/
def Cfg.newObj (c : Cfg) (o : AObj) (ob : Obj) : Cfg := { ι := fun i => if i = c.H.length then some c.w.heap.size else c.ι i, H := c.H ++ [o], w := c.w.alloc ob }

theorem Ext.push (c : Cfg) (ob : Obj) (h : HR c) : Ext c (c.push ob) where
  fz := fun p v _ hf => ⟨cell?_alloc_lt _ _ hf.1, hf.2⟩
  bx := fun _ _ h => h
  tl := fun id n z hn => .inr ⟨n, hn, Nat.le_refl _, fun _ => ⟨rfl, fun b arr e hi ha => ⟨arr, (heap_alloc_lt _ _ (block_lt ha)).trans ha, rfl⟩⟩⟩
  dd := fun _ h => h
  size := by show _ ≤ (c.w.alloc ob).heap.size; rw [heap_alloc_size]; omega
  os := rfl
  tape := rfl
  output := rfl
  hlen := Nat.le_refl _
  outer := fun b hb _ => heap_alloc_lt _ _ hb
  nw := fun id b o ho hl hi _ => ⟨o, ho, hl, hi⟩

theorem HR.push {c : Cfg} (h : HR c) (ob : Obj) : HR (c.push ob) where
  dom := h.dom
  ex := h.ex
  obj := fun id b o ho hi hl => (h.obj id b o ho hi hl).mono (Ext.push c ob h).toExt0 (heap_alloc_lt _ _ (h.bound id b hi))
  inj := h.inj
  bound := fun id b hi => by show b < (c.w.alloc ob).heap.size; rw [heap_alloc_size]; have := h.bound id b hi; omega

theorem newObj_get {c : Cfg} {o : AObj} {ob : Obj} {id : Nat} {x : AObj} : (c.newObj o ob).H[id]? = some x ↔ c.H[id]? = some x ∨ (id = c.H.length ∧ x = o) := by
  show (c.H ++ [o])[id]? = some x ↔ _
  rcases Nat.lt_trichotomy id c.H.length with h | h | h
  · rw [List.getElem?_append_left h]
    constructor
    · exact .inl
    · rintro (h1 | ⟨h1, _⟩)
      · exact h1
      · omega
  · subst h
    rw [List.getElem?_append_right (Nat.le_refl _), Nat.sub_self]
    simp [eq_comm]
  · rw [List.getElem?_append_right (by omega), List.getElem?_eq_none (by simp; omega)]
    constructor
    · intro h'; cases h'
    · rintro (h1 | ⟨h1, _⟩)
      · rw [List.getElem?_eq_none (by omega)] at h1; cases h1
      · omega

theorem newObj_ι {c : Cfg} {o : AObj} {ob : Obj} {id b : Nat} (h : HR c) : (c.newObj o ob).ι id = some b ↔ c.ι id = some b ∨ (id = c.H.length ∧ b = c.w.heap.size) := by
  show (if id = c.H.length then some c.w.heap.size else c.ι id) = some b ↔ _
  split
  · rename_i hid
    constructor
    · intro h'; exact .inr ⟨hid, by simpa using h'.symm⟩
    · rintro (h1 | ⟨_, h1⟩)
      · have := h.dom _ _ h1; omega
      · rw [h1]
  · rename_i hid
    constructor
    · exact .inl
    · rintro (h1 | ⟨h1, _⟩)
      · exact h1
      · exact absurd h1 hid

theorem newObj_ι_old {c : Cfg} {o : AObj} {ob : Obj} {id : Nat} (h : id < c.H.length) : (c.newObj o ob).ι id = c.ι id := by
  show (if id = c.H.length then some c.w.heap.size else c.ι id) = _
  rw [if_neg (by omega)]

theorem get_lt {H : List AObj} {id : Nat} {o : AObj} (h : H[id]? = some o) : id < H.length := (List.getElem?_eq_some_iff.1 h).1

theorem Ext.newObj (c : Cfg) (o : AObj) (ob : Obj) (h : HR c) : Ext c (c.newObj o ob) where
  fz := fun p v hp hf => by
    refine ⟨cell?_alloc_lt _ _ hf.1, ?_⟩
    rintro ⟨id, x, h1, h2, h3⟩
    rcases newObj_get.1 h1 with h1 | ⟨h1, _⟩
    · rcases (newObj_ι h).1 h2 with h2 | ⟨h2, _⟩
      · exact hf.2 ⟨id, x, h1, h2, h3⟩
      · have := get_lt h1; omega
    · rcases (newObj_ι h).1 h2 with h2 | ⟨_, h2⟩
      · have := h.dom _ _ h2; omega
      · omega
  bx := fun id b ⟨x, h1, h2, h3⟩ => ⟨x, newObj_get.2 (.inl h1), h2, (newObj_ι h).2 (.inl h3)⟩
  tl := fun id n z hn => .inr ⟨n, newObj_get.2 (.inl hn), Nat.le_refl _, fun _ => ⟨newObj_ι_old (get_lt hn), fun b arr e hi ha => ⟨arr, (heap_alloc_lt _ _ (block_lt ha)).trans ha, rfl⟩⟩⟩
  dd := fun id hd => newObj_get.2 (.inl hd)
  size := by show _ ≤ (c.w.alloc ob).heap.size; rw [heap_alloc_size]; omega
  os := rfl
  tape := rfl
  output := rfl
  hlen := by show _ ≤ (c.H ++ [o]).length; simp
  outer := fun b hb _ => heap_alloc_lt _ _ hb
  nw := fun id b x hx hl hi hb => by
    rcases (newObj_ι h).1 hi with hi | ⟨_, hi⟩
    · rcases newObj_get.1 hx with hx | ⟨hx, _⟩
      · exact ⟨x, hx, hl, hi⟩
      · have := h.dom _ _ hi; omega
    · omega

theorem HR.newObj {c : Cfg} {o : AObj} {ob : Obj} (h : HR c) (hob : objRel (c.newObj o ob) c.w.heap.size o) : HR (c.newObj o ob) where
  dom := fun id b hi => by
    show id < (c.H ++ [o]).length
    rw [List.length_append, List.length_singleton]
    rcases (newObj_ι h).1 hi with hi | ⟨hi, _⟩
    · have := h.dom _ _ hi; omega
    · omega
  ex := fun id x hx hb hl => by
    rcases newObj_get.1 hx with hx | ⟨hx, _⟩
    · obtain ⟨b, hb⟩ := h.ex id x hx hb hl
      exact ⟨b, (newObj_ι h).2 (.inl hb)⟩
    · exact ⟨c.w.heap.size, (newObj_ι h).2 (.inr ⟨hx, rfl⟩)⟩
  obj := fun id b x hx hi hl => by
    rcases newObj_get.1 hx with hx | ⟨hx, rfl⟩
    · rcases (newObj_ι h).1 hi with hi | ⟨hi, _⟩
      · exact (h.obj id b x hx hi hl).mono (Ext.newObj c o ob h).toExt0 (heap_alloc_lt _ _ (h.bound id b hi))
      · have := get_lt hx; omega
    · rcases (newObj_ι h).1 hi with hi | ⟨_, rfl⟩
      · have := h.dom _ _ hi; omega
      · exact hob
  inj := fun i j b x y hx hy lx ly hi hj => by
    rcases (newObj_ι h).1 hi with hi | ⟨hi, hi'⟩
    · rcases (newObj_ι h).1 hj with hj | ⟨hj, hj'⟩
      · rcases newObj_get.1 hx with hx | ⟨hx, _⟩
        · rcases newObj_get.1 hy with hy | ⟨hy, _⟩
          · exact h.inj i j b x y hx hy lx ly hi hj
          · have := h.dom _ _ hj; omega
        · have := h.dom _ _ hi; omega
      · have := h.bound _ _ hi; omega
    · rcases (newObj_ι h).1 hj with hj | ⟨hj, _⟩
      · have := h.bound _ _ hj; omega
      · omega
  bound := fun id b hi => by
    show b < (c.w.alloc ob).heap.size
    rw [heap_alloc_size]
    rcases (newObj_ι h).1 hi with hi | ⟨_, hi⟩
    · have := h.bound _ _ hi; omega
    · omega

theorem objRel_new {c : Cfg} (h : HR c) {cs : List AV} {vs : List Value} (hr : RelL c cs vs) (e : TypeId) : objRel (c.newObj (.cells cs) (.cells vs.toArray e)) c.w.heap.size (.cells cs) := by
  refine ⟨vs.toArray, e, heap_alloc_eq _ _, by have := hr.1; simp; omega, fun i a ha => ?_⟩
  obtain ⟨v, hv, hrv⟩ := hr.get ha
  exact ⟨v, by simpa using hv, hrv.mono (Ext.newObj c _ _ h).toExt0⟩

theorem box_new {c : Cfg} (h : HR c) (cs : List AV) (ob : Obj) {m j : Nat} (hm : m + j = c.H.length) : RelV (c.newObj (.cells cs) ob) (.ptr m j 0) (.pointer (some ⟨c.w.heap.size, 0, none⟩)) :=
  .ptr ⟨.cells cs, newObj_get.2 (.inr ⟨hm, rfl⟩), rfl, (newObj_ι h).2 (.inr ⟨hm, rfl⟩)⟩

theorem run_newRow {P : Program} {w : World} {e : TypeId} {cs : Array Value} : (newRow e cs).run P w = .ok ⟨w.heap.size, 0, none⟩ (w.alloc (.cells cs e)) := by
  simp [newRow, newObj, Sem.run]

section rules
variable {E : Env} {ro : Option Nat} {n : Nat} {K : Kont} {t : Slots} {H L : List AObj} {ops : Array Oper} {o : Oper} {rest : List Oper}

/-- A variable in memory, from a value. -/
theorem WpOps.box {d ty : Nat} {x : Operand} (cs : List AV) (hw : wantedA ops t o = some true) (hd : o.dst = some d) (hdn : Nat.blt d n = true) (hop : o.op = .box ty x) (hc : cellsA (evalA E.G t x) = some cs)
    (hk : WpOps E ro n ops rest K ((d, .ptr H.length L.length 0) :: t) (H ++ (L ++ [.cells cs]))) : WpOps E ro n ops (o :: rest) K t (H ++ L) :=
  .value hw hd hdn (fun cc e => by rw [hop] at e; cases e) (fun c a hH ho s => by
    have hr := cellsA_rel (eval_rel ho s x) hc
    have h1 := objRel_new ho.hr hr ty
    have h2 := Ext.newObj c (.cells cs) (.cells (a.eval x).cells ty) ho.hr
    have h3 : HR (c.newObj (.cells cs) (.cells (a.eval x).cells ty)) := HR.newObj ho.hr (by simpa using h1)
    have h4 := box_new ho.hr cs (.cells (a.eval x).cells ty) (m := H.length) (j := L.length) (by rw [hH]; simp)
    have h5 : c.H ++ [.cells cs] = H ++ (L ++ [.cells cs]) := by rw [hH]; simp
    unfold Cfg.newObj at h2 h3 h4
    rw [h5] at h2 h3 h4
    refine ⟨.pointer (some ⟨c.w.heap.size, 0, none⟩), _, _, ?_, h2, h3, h4⟩
    simp [execOp, hop, Instr.box, newVar, run_newRow]) hk

def zeroA (i : TI) : Option (List AV) := cellsA (constA i.zero)

/-- A variable in memory, zero. -/
theorem WpOps.alloc {d ty : Nat} {i : TI} (cs : List AV) (hw : wantedA ops t o = some true) (hd : o.dst = some d) (hdn : Nat.blt d n = true) (hop : o.op = .alloc ty) (hi : lookT E.T ty = some i) (hc : zeroA i = some cs)
    (hk : WpOps E ro n ops rest K ((d, .ptr H.length L.length 0) :: t) (H ++ (L ++ [.cells cs]))) : WpOps E ro n ops (o :: rest) K t (H ++ L) :=
  .value hw hd hdn (fun cc e => by rw [hop] at e; cases e) (fun c a hH ho s => by
    have hr := cellsA_rel (constA_rel c i.zero) hc
    have h1 := objRel_new ho.hr hr ty
    have h2 := Ext.newObj c (.cells cs) (.cells i.zero.cells ty) ho.hr
    have h3 : HR (c.newObj (.cells cs) (.cells i.zero.cells ty)) := HR.newObj ho.hr (by simpa using h1)
    have h4 := box_new ho.hr cs (.cells i.zero.cells ty) (m := H.length) (j := L.length) (by rw [hH]; simp)
    have h5 : c.H ++ [.cells cs] = H ++ (L ++ [.cells cs]) := by rw [hH]; simp
    unfold Cfg.newObj at h2 h3 h4
    rw [h5] at h2 h3 h4
    refine ⟨.pointer (some ⟨c.w.heap.size, 0, none⟩), _, _, ?_, h2, h3, h4⟩
    simp [execOp, hop, Instr.alloc, run_zeroValue hi, newVar, run_newRow]) hk

/-- A CALL. -/
theorem WpOps.call {d g : Nat} {caps : List AV} {f : Operand} {xs : List Operand} {ats : Array TypeId} {R : AEnd → List AObj → Prop}
    (hw : wantedA ops t o = some true) (hd : o.dst = some d) (hdn : Nat.blt d n = true) (hop : o.op = .call { callee := .value f, args := ⟨xs⟩, argTypes := ats }) (hf : evalA E.G t f = .func g caps)
    (hc : CallsA E g (evalL E.G t xs ++ caps) H R)
    (hk : ∀ x H', R x H' → match x with | .ret r => WpOps E ro n ops rest K ((d, r) :: t) H' | .panic v => K (.panic v) t H') : WpOps E ro n ops (o :: rest) K t H := by
  refine ⟨?_⟩
  intro cd c0 c a e1 e2 e3 e4 e5
  have hnd : notDefer o := fun cc e => by rw [hop] at e; cases e
  have hfr := eval_rel e3 e4 f
  rw [hf] at hfr
  generalize hv : a.eval f = v at hfr
  cases hfr with
  | func ws hl hr =>
    have hargs := (evalL_rel e3 e4 xs).append (bs := caps) (us := ws) ⟨hl, hr⟩
    have hcall := hc.out c _ e2 e3 hargs
    have hrun : (execOp a.eval o).run E.P c.w = (callFunc g (xs.map a.eval ++ ws).toArray).run E.P c.w := by
      simp [execOp, hop, resolve, hv, Deferred.ofValue, invoke]
    refine wpListIn_of (wanted_eq e4 hw) hnd ?_
    rw [hrun]
    revert hcall
    cases (callFunc g (xs.map a.eval ++ ws).toArray).run E.P c.w with
    | halt x w => intro h; exact h.elim
    | ok nx w =>
      cases nx <;> intro hcall <;> try exact hcall.elim
      case value v' =>
        obtain ⟨ι', H', x, a1, a2, a3, a4⟩ := hcall
        rw [Oper.uponIn_value, hd]
        cases x with
        | panic v => exact a3.elim
        | ret r => exact (hk _ _ a4).out cd c0 ⟨ι', H', w⟩ _ (e1.trans a1) rfl a2 ((e4.mono a1).put hdn a3) (e5.mono a1 rfl)
      case enter f' args' =>
        rw [Oper.uponIn_enter]
        refine ⟨fun h => (by rw [Fc_depth] at h; simp at h), ?_⟩
        rw [Fc_calls]
        refine Calls.mono hcall ?_
        rintro e w' ⟨ι', H', x, a1, a2, a3, a4⟩
        cases e with
        | returned v' =>
          cases x with
          | panic v => exact a3.elim
          | ret r =>
            show wpListIn _ _ _ _ _ _ (a.put o.dst v') w'
            rw [hd]
            exact (hk _ _ a4).out cd c0 ⟨ι', H', w'⟩ _ (e1.trans a1) rfl a2 ((e4.mono a1).put hdn a3) (e5.mono a1 rfl)
        | panicked chain =>
          cases x with
          | ret r => exact a3.elim
          | panic v =>
            have := hk _ _ a4
            exact ⟨ι', H', t, .panic v, e1.trans a1, a2, e4.mono a1, e5.mono a1 rfl, a3, this⟩
        | outgrown => cases x <;> exact a3.elim
end rules

end Go.Gp
