/- Part of a proof: GpA40 -/
import Derived.Test.YtmacdhglhafldaaDoorK13

/- Boxes that are laid at a place kept for them. -/
namespace Go.Gp
open Go.RowKit
set_option linter.unusedVariables false
set_option linter.unusedSimpArgs false

def Cfg.layAt (c : Cfg) (id : Nat) (o : AObj) (ob : Obj) : Cfg := { ι := fun k => if k = id then some c.w.heap.size else c.ι k, H := c.H.set id o, w := c.w.alloc ob }

theorem layAt_ι {c : Cfg} {id k b : Nat} {o : AObj} {ob : Obj} : (c.layAt id o ob).ι k = some b ↔ (k = id ∧ b = c.w.heap.size) ∨ (k ≠ id ∧ c.ι k = some b) := by
  show (if k = id then some c.w.heap.size else c.ι k) = some b ↔ _
  by_cases hk : k = id
  · rw [if_pos hk]
    constructor
    · intro h; injection h with h; exact .inl ⟨hk, h.symm⟩
    · rintro (⟨_, rfl⟩ | ⟨h, _⟩)
      · rfl
      · exact absurd hk h
  · rw [if_neg hk]
    constructor
    · intro h; exact .inr ⟨hk, h⟩
    · rintro (⟨h, _⟩ | ⟨_, h⟩)
      · exact absurd h hk
      · exact h

theorem Ext.layAt {c : Cfg} {id len z : Nat} {o : AObj} {ob : Obj} (h : HR c) (hH : c.H[id]? = some (.tail len z)) (hb : o.box = true) : Ext c (c.layAt id o ob) := by
  have hid := get_lt hH
  exact {
    fz := fun p v hp hf => by
      refine ⟨cell?_alloc_lt _ _ hf.1, ?_⟩
      rintro ⟨k, x, h1, h2, h3⟩
      rcases layAt_ι.1 h2 with ⟨rfl, h2⟩ | ⟨hne, h2⟩
      · omega
      · rcases (set_get hid).1 h1 with ⟨e, _⟩ | ⟨_, h1⟩
        · exact hne e
        · exact hf.2 ⟨k, x, h1, h2, h3⟩
    bx := fun k b1 ⟨x, h1, h2, h3⟩ => by
      have hk : k ≠ id := fun e => by subst e; rw [hH] at h1; injection h1 with h1; subst h1; simp [AObj.box] at h2
      exact ⟨x, (set_get hid).2 (.inr ⟨hk, h1⟩), h2, layAt_ι.2 (.inr ⟨hk, h3⟩)⟩
    tl := fun k n z' hn => by
      by_cases hk : k = id
      · exact .inl ⟨o, (set_get hid).2 (.inl ⟨hk, rfl⟩), hb⟩
      · refine .inr ⟨n, (set_get hid).2 (.inr ⟨hk, hn⟩), Nat.le_refl _, fun _ => ⟨?_, fun b1 a1 e1 h1 h2 => ⟨a1, (heap_alloc_lt _ _ (block_lt h2)).trans h2, rfl⟩⟩⟩
        show (if k = id then some c.w.heap.size else c.ι k) = c.ι k
        rw [if_neg hk]
    dd := fun k ⟨x, h1, h2⟩ => by
      by_cases hk : k = id
      · exact ⟨o, (set_get hid).2 (.inl ⟨hk, rfl⟩), hb⟩
      · exact ⟨x, (set_get hid).2 (.inr ⟨hk, h1⟩), h2⟩
    size := by show _ ≤ (c.w.alloc ob).heap.size; rw [heap_alloc_size]; omega
    os := rfl
    tape := rfl
    output := rfl
    hlen := by show _ ≤ (c.H.set id _).length; simp
    outer := fun b hb _ => heap_alloc_lt _ _ hb
    nw := fun k b1 x hx hlx hix hb1 => by
      rcases layAt_ι.1 hix with ⟨rfl, h2⟩ | ⟨hne, h2⟩
      · omega
      · rcases (set_get hid).1 hx with ⟨e, _⟩ | ⟨_, hx⟩
        · exact absurd e hne
        · exact ⟨x, hx, hlx, h2⟩ }

theorem HR.layAt {c : Cfg} {id len z : Nat} {o : AObj} {ob : Obj} (h : HR c) (hH : c.H[id]? = some (.tail len z)) (hb : o.box = true) (ho : objRel (c.layAt id o ob) c.w.heap.size o) : HR (c.layAt id o ob) := by
  have hid := get_lt hH
  have hx := Ext.layAt (ob := ob) h hH hb
  exact {
    dom := fun k b hk => by
      show k < (c.H.set id _).length
      rw [List.length_set]
      rcases layAt_ι.1 hk with ⟨rfl, _⟩ | ⟨_, h2⟩
      · exact hid
      · exact h.dom k b h2
    ex := fun k x hk hbx hlx => by
      rcases (set_get hid).1 hk with ⟨rfl, rfl⟩ | ⟨hne, hk⟩
      · exact ⟨_, layAt_ι.2 (.inl ⟨rfl, rfl⟩)⟩
      · obtain ⟨b, hb⟩ := h.ex k x hk hbx hlx
        exact ⟨b, layAt_ι.2 (.inr ⟨hne, hb⟩)⟩
    obj := fun k b x hk hik hlx => by
      rcases layAt_ι.1 hik with ⟨rfl, rfl⟩ | ⟨hne, h2⟩
      · rcases (set_get hid).1 hk with ⟨_, rfl⟩ | ⟨hne, _⟩
        · exact ho
        · exact absurd rfl hne
      · rcases (set_get hid).1 hk with ⟨e1, _⟩ | ⟨_, hk⟩
        · exact absurd e1 hne
        · exact (h.obj k b x hk h2 hlx).mono hx.toExt0 (heap_alloc_lt _ _ (h.bound k b h2))
    inj := fun i j b x y h1 h2 l1 l2 i1 i2 => by
      rcases layAt_ι.1 i1 with ⟨e1, g1⟩ | ⟨n1, g1⟩
      · rcases layAt_ι.1 i2 with ⟨e2, g2⟩ | ⟨n2, g2⟩
        · rw [e1, e2]
        · have := h.bound _ _ g2; omega
      · rcases layAt_ι.1 i2 with ⟨e2, g2⟩ | ⟨n2, g2⟩
        · have := h.bound _ _ g1; omega
        · rcases (set_get hid).1 h1 with ⟨e1, _⟩ | ⟨_, k1⟩
          · exact absurd e1 n1
          · rcases (set_get hid).1 h2 with ⟨e2, _⟩ | ⟨_, k2⟩
            · exact absurd e2 n2
            · exact h.inj i j b _ _ k1 k2 l1 l2 g1 g2
    bound := fun k b hk => by
      show b < (c.w.alloc _).heap.size
      rw [heap_alloc_size]
      rcases layAt_ι.1 hk with ⟨_, rfl⟩ | ⟨_, h2⟩
      · omega
      · have := h.bound _ _ h2; omega }

section
variable {E : Env} {ro : Option Nat} {n : Nat} {K : Kont} {t : Slots} {H L : List AObj} {ops : Array Oper} {o : Oper} {rest : List Oper} {d : Nat} {ids : List Nat} {cl : List Nat} {k : Nat} {Kc : Slots → List AObj → Prop}

/-- A place is kept. -/
theorem WpA.keep {code : Code} (h : WpA E ro n code K t (H ++ (L ++ [.tail 0 0]))) : WpA E ro n code K t (H ++ L) := by
  refine ⟨?_⟩
  intro cd c0 c a e1 e2 e3 e4 e5
  have hx := Ext.adopt c 0 e3.hr
  have hh := e3.hr.adopt 0
  exact h.out cd c0 (c.adopt 0) a (e1.trans hx) (by show c.H ++ _ = _; rw [e2]; simp) (e3.step hx hh) (e4.mono hx) (e5.mono hx rfl)

theorem P1.allocAt {X : List AObj} {ty m j len z : Nat} {i : TI} {cs : List AV} (hop : o.op = .alloc ty) (hi : lookT E.T ty = some i) (hc : zeroA i = some cs) (hX : X[m + j]? = some (.tail len z)) : P1 E n X (X.set (m + j) (.cells cs)) o t (.ptr m j 0) :=
  ⟨fun cc e => (by rw [hop] at e; cases e), fun c a hH ho s => by
    subst hH
    have hr := cellsA_rel (constA_rel c i.zero) hc
    have hx := Ext.layAt (o := .cells cs) (ob := .cells i.zero.cells ty) ho.hr hX rfl
    have hob : objRel (c.layAt (m + j) (.cells cs) (.cells i.zero.cells ty)) c.w.heap.size (.cells cs) := by
      refine ⟨i.zero.cells, ty, heap_alloc_eq _ _, by have := hr.1; simp at this; omega, fun q a0 ha => ?_⟩
      obtain ⟨v, hv, hrv⟩ := hr.get ha
      exact ⟨v, by simpa using hv, hrv.mono hx.toExt0⟩
    have hh := HR.layAt ho.hr hX rfl hob
    have hp : RelV (c.layAt (m + j) (.cells cs) (.cells i.zero.cells ty)) (.ptr m j 0) (.pointer (some ⟨c.w.heap.size, 0, none⟩)) :=
      .ptr ⟨.cells cs, (set_get (get_lt hX)).2 (.inl ⟨rfl, rfl⟩), rfl, layAt_ι.2 (.inl ⟨rfl, rfl⟩)⟩
    refine ⟨.pointer (some ⟨c.w.heap.size, 0, none⟩), _, _, ?_, hx, hh, hp⟩
    simp [execOp, hop, Instr.alloc, run_zeroValue hi, newVar, run_newRow]⟩

theorem LexH.p5 {H' : List AObj} {av : AV} (id : Nat) (ob : AObj) (hw : wantedA ops t o = some true) (hd : o.dst = some d) (hdn : Nat.blt d n = true) (hc : cl.getD k 2 = 5) (hid : id ∉ ids) (hk0 : Kept H id) (h : ∀ H0, Kept H0 id → P1 E n H0 (H0.set id ob) o (cutT (o.looksAt ops) t) av)
    (hk : LexH E ro n ids ops cl Kc rest (k + 1) ((d, av) :: t) (H.set id ob)) : LexH E ro n ids ops cl Kc (o :: rest) k t H :=
  .cons av (H.set id ob) ⟨dst_some hd hdn, .inl ⟨hw, by rw [hc]; exact ⟨id, ob, rfl, hid, hk0, fun H0 h0 => (h H0 h0).does⟩⟩⟩ (by rw [hd]; exact hk)

/-- An allocation at the place that is kept for it. -/
theorem LexH.alloc5 {ty z : Nat} {i : TI} (j : Nat) (cs : List AV) (hw : wantedA ops t o = some true) (hd : o.dst = some d) (hdn : Nat.blt d n = true) (hcl : cl.getD k 2 = 5) (hop : o.op = .alloc ty) (hi : lookT E.T ty = some i) (hc : zeroA i = some cs) (hid : H.length + j ∉ ids) (hL : L[j]? = some (.tail 0 z))
    (hk : LexH E ro n ids ops cl Kc rest (k + 1) ((d, .ptr H.length j 0) :: t) (H ++ L.set j (.cells cs))) : LexH E ro n ids ops cl Kc (o :: rest) k t (H ++ L) :=
  .p5 (H' := H) (H.length + j) (.cells cs) hw hd hdn hcl hid ⟨z, app_get rfl hL⟩ (fun H0 ⟨z0, h0⟩ => .allocAt hop hi hc h0) (by rw [set_app]; exact hk)

/-- A call that lays things behind all others. -/
theorem LexH.call6 {g : Nat} {caps : List AV} {f : Operand} {xs : List Operand} {ats : Array TypeId} {r : AV} (X : List AObj)
    (hw : wantedA ops t o = some true) (hd : o.dst = some d) (hdn : Nat.blt d n = true) (hcl : cl.getD k 2 = 6) (hop : o.op = .call { callee := .value f, args := ⟨xs⟩, argTypes := ats }) (hf : evalA E.G t f = .func g caps)
    (hc : ∀ H0 : List AObj, H0.length = (H ++ L).length → CallsA E g (evalL E.G t xs ++ caps) H0 (fun x H1 => H1 = H0 ++ X ∧ x = .ret r)) (hX : ∀ x ∈ X, ∀ z, x ≠ .tail 0 z)
    (hk : LexH E ro n ids ops cl Kc rest (k + 1) ((d, r) :: t) (H ++ (L ++ X))) : LexH E ro n ids ops cl Kc (o :: rest) k t (H ++ L) :=
  .cons r (H ++ (L ++ X)) ⟨dst_some hd hdn, .inl ⟨hw, by rw [hcl]; exact ⟨X, (List.append_assoc _ _ _).symm, hX, fun H0 h0 => doesH_call hop hf (hc H0 h0)⟩⟩⟩ (by rw [hd]; exact hk)
end

/-- Less is said of each cell of a slice. -/
def SubLL : List (List AV) → List (List AV) → Prop
  | [], [] => True
  | u :: us, v :: vs => SubL u v ∧ SubLL us vs
  | _, _ => False
theorem SubLL.length : ∀ {us vs : List (List AV)}, SubLL us vs → us.length = vs.length
  | [], [], _ => rfl
  | _ :: _, _ :: _, h => by simp [SubLL.length h.2]
  | [], _ :: _, h => h.elim
  | _ :: _, [], h => h.elim
theorem SubLL.get : ∀ {us vs : List (List AV)} {i : Nat} {v : List AV}, SubLL us vs → vs[i]? = some v → ∃ u, us[i]? = some u ∧ SubL u v
  | u :: us, v :: vs, 0, b, h, h2 => by simp at h2; subst h2; exact ⟨u, rfl, h.1⟩
  | u :: us, v :: vs, i + 1, b, h, h2 => by
    have h2' : vs[i]? = some b := by simpa using h2
    obtain ⟨x, h3, h4⟩ := SubLL.get h.2 h2'
    exact ⟨x, by simpa using h3, h4⟩
  | [], [], _, _, _, h1 => by simp at h1
  | [], _ :: _, _, _, h, _ => h.elim
  | _ :: _, [], _, _, h, _ => h.elim
theorem Sub.elems {t : Tag} {z : Nat} {us vs : List (List AV)} (h : SubLL us vs) : Sub (.sl t z us) (.sl t z vs) := fun c x hx => by
  cases hx with
  | sl ws hl hc hz ht hf hr =>
    refine .sl ws (h.length.symm.trans hl) hc (fun y hy => ?_) ht hf (fun i j l e h1 h2 => ?_)
    · obtain ⟨i, hi⟩ := List.getElem?_of_mem hy
      obtain ⟨u, hu, hs⟩ := h.get hi
      rw [← hs.length]
      exact hz u (List.mem_of_getElem? hu)
    · obtain ⟨u, hu, hs⟩ := h.get h1
      have hj : j < u.length := by rw [hs.length]; exact (List.getElem?_eq_some_iff.1 h2).1
      exact hs.get (List.getElem?_eq_getElem hj) h2 c _ (hr i j u _ hu (List.getElem?_eq_getElem hj))
end Go.Gp
