/- Part of a proof: GpA19 -/
import Derived.Test.YtmacdhglhafldaaDoorK7

/- Rows that are taken over; calls inside a statement that writes; slices of slices; quotients. -/
namespace Go.Gp
open Go.RowKit
set_option linter.unusedVariables false
set_option linter.unusedSimpArgs false

/-- A new tail that has no block yet. -/
def Cfg.adopt (c : Cfg) (z : Nat) (n : Nat := 0) : Cfg := { c with H := c.H ++ [.tail n z] }

theorem adopt_get {c : Cfg} {z id n0 : Nat} {x : AObj} : (c.adopt z n0).H[id]? = some x ↔ c.H[id]? = some x ∨ (id = c.H.length ∧ x = .tail n0 z) := by
  show (c.H ++ [AObj.tail n0 z])[id]? = some x ↔ _
  rcases Nat.lt_trichotomy id c.H.length with h | h | h
  · rw [List.getElem?_append_left h]
    constructor
    · exact .inl
    · rintro (h1 | ⟨h1, _⟩)
      · exact h1
      · omega
  · subst h
    rw [List.getElem?_append_right (Nat.le_refl _), Nat.sub_self]
    simp [eq_comm]
  · rw [List.getElem?_append_right (by omega), List.getElem?_eq_none (by simp; omega)]
    constructor
    · intro h'; cases h'
    · rintro (h1 | ⟨h1, _⟩)
      · rw [List.getElem?_eq_none (by omega)] at h1; cases h1
      · omega

theorem Ext.adopt (c : Cfg) (z : Nat) (h : HR c) (n0 : Nat := 0) : Ext c (c.adopt z n0) where
  fz := fun p v hp hf => by
    refine ⟨hf.1, ?_⟩
    rintro ⟨id, x, h1, h2, h3⟩
    rcases adopt_get.1 h1 with h1 | ⟨h1, _⟩
    · exact hf.2 ⟨id, x, h1, h2, h3⟩
    · have := h.dom _ _ (show c.ι id = some _ from h2); omega
  bx := fun id b ⟨x, h1, h2, h3⟩ => ⟨x, adopt_get.2 (.inl h1), h2, h3⟩
  tl := fun id n z hn => .inr ⟨n, adopt_get.2 (.inl hn), Nat.le_refl _, fun _ => ⟨rfl, fun b arr e hi ha => ⟨arr, ha, rfl⟩⟩⟩
  dd := fun id ⟨x, h1, h2⟩ => ⟨x, adopt_get.2 (.inl h1), h2⟩
  sz := fun _ _ _ _ h => h
  size := Nat.le_refl _
  os := rfl
  tape := rfl
  output := rfl
  hlen := by show _ ≤ (c.H ++ [AObj.tail n0 z]).length; simp
  outer := fun b hb _ => rfl
  nw := fun id b x hx hl hi hb => by
    rcases adopt_get.1 hx with hx | ⟨hx, _⟩
    · exact ⟨_, x, hx, hl, hi⟩
    · have := h.dom _ _ (show c.ι id = some _ from hi); omega

theorem HR.adopt {c : Cfg} (h : HR c) (z : Nat) (n0 : Nat := 0) : HR (c.adopt z n0) where
  dom := fun id b hi => by
    show id < (c.H ++ [AObj.tail n0 z]).length
    have := h.dom id b hi
    simp; omega
  ex := fun id x hx hb hl => by
    rcases adopt_get.1 hx with hx | ⟨_, rfl⟩
    · exact h.ex id x hx hb hl
    · cases hb
  obj := fun id b x hx hi hl => by
    rcases adopt_get.1 hx with hx | ⟨hx, _⟩
    · exact (h.obj id b x hx hi hl).mono (Ext.adopt c z h n0).toExt0 rfl
    · have := h.dom _ _ (show c.ι id = some _ from hi); omega
  inj := fun i j b x y hx hy lx ly hi hj => by
    rcases adopt_get.1 hx with hx | ⟨hx, _⟩
    · rcases adopt_get.1 hy with hy | ⟨hy, _⟩
      · exact h.inj i j b x y hx hy lx ly hi hj
      · have := h.dom _ _ (show c.ι j = some _ from hj); omega
    · have := h.dom _ _ (show c.ι i = some _ from hi); omega
  bound := fun id b hi => h.bound id b hi

theorem RelV.adopt {c : Cfg} {z z0 m q : Nat} {v : Value} (h : HR c) (hm : m + q = c.H.length) (hr : RelV c (.sl .full z0 []) v) : RelV (c.adopt z) (.sl (.row m q) z []) v := by
  cases hr with
  | sl vs hl hc hz ht hf hr =>
    rename_i a len cap
    have hl0 : len = 0 := hl.symm
    subst hl0
    have hc0 : cap = 0 := ht
    subst hc0
    refine .sl (fun _ _ => undef) rfl (Nat.le_refl _) (by simp) (.inr ⟨0, adopt_get.2 (.inr ⟨hm, rfl⟩), Nat.le_refl _, fun _ => .inl ⟨?_, rfl⟩⟩) (fun i j hi => by omega) (fun i j l e h => by simp at h)
    cases hi : (c.adopt z).ι (m + q) with
    | none => rfl
    | some b =>
      have := h.dom _ _ (show c.ι (m + q) = some b from hi)
      omega

/-- A slice without spare places becomes a row whose first append takes a new block. -/
theorem RelV.adoptN {c : Cfg} {z m q : Nat} {xs : List (List AV)} {v : Value} (h : HR c) (hm : m + q = c.H.length) (hr : RelV c (.sl .full z xs) v) : RelV (c.adopt z xs.length) (.sl (.row m q) z xs) v := by
  have hx := Ext.adopt c z h (n0 := xs.length)
  have hr' := hr.mono hx.toExt0
  cases hr' with
  | sl vs hl hc hz ht hf hr1 =>
    rename_i a len cap
    refine .sl vs hl hc hz (.inr ⟨xs.length, adopt_get.2 (.inr ⟨hm, rfl⟩), by omega, fun _ => .inl ⟨?_, ht⟩⟩) hf hr1
    cases hi : (c.adopt z xs.length).ι (m + q) with
    | none => rfl
    | some b =>
      have := h.dom _ _ (show c.ι (m + q) = some b from hi)
      omega

/-- A box's cells told anew. -/
theorem recell {c : Cfg} {id : Nat} {cs cs' : List AV} (h : HR c) (hH : c.H[id]? = some (.cells cs)) (hl : cs'.length = cs.length) (hr : ∀ (i : Nat) a a0 v, cs'[i]? = some a → cs[i]? = some a0 → RelV c a0 v → RelV c a v) :
    Ext c { c with H := c.H.set id (.cells cs') } ∧ HR { c with H := c.H.set id (.cells cs') } := by
  have hid := get_lt hH
  obtain ⟨b, hi⟩ := h.ex id _ hH rfl rfl
  have hx : Ext c (c.upd id (.cells cs') c.w) := Ext.upd (o := .cells cs) h hH hi rfl rfl rfl rfl (fun _ => trivial) (Turned.refl _ _)
  refine ⟨hx, HR.upd h hH hi rfl hx (Turned.refl _ _) ?_⟩
  obtain ⟨arr, e, h1, h2, h3⟩ := h.obj id b _ hH hi rfl
  refine ⟨arr, e, h1, by rw [hl]; exact h2, fun i a ha => ?_⟩
  have hlt : i < cs.length := by rw [← hl]; exact (List.getElem?_eq_some_iff.1 ha).1
  obtain ⟨v, hv, hrv⟩ := h3 i _ (List.getElem?_eq_getElem hlt)
  exact ⟨v, hv, (hr i a _ v ha (List.getElem?_eq_getElem hlt) hrv).mono hx.toExt0⟩

section
variable {E : Env} {ro : Option Nat} {n : Nat} {ids : List Nat} {K : Kont} {t : Slots} {H H' H1 L : List AObj} {ops : Array Oper} {o : Oper} {l rest : List Oper} {cl : List Nat} {k d : Nat} {av : AV} {Kc : Slots → List AObj → Prop}

/-- A slice without places becomes a row of the activation's own. -/
theorem WpA.adoptS {code : Code} {z0 : Nat} (d z : Nat) (hd : look t d = .sl .full z0 []) (h : WpA E ro n code K ((d, .sl (.row H.length L.length) z []) :: t) (H ++ (L ++ [.tail 0 z]))) : WpA E ro n code K t (H ++ L) := by
  refine ⟨?_⟩
  intro cd c0 c a e1 e2 e3 e4 e5
  have hx := Ext.adopt c z e3.hr
  have hh := e3.hr.adopt z
  refine h.out cd c0 (c.adopt z) a (e1.trans hx) (by show c.H ++ _ = _; rw [e2]; simp) (e3.step hx hh) ⟨e4.size, fun i => ?_⟩ (e5.mono hx rfl)
  show RelV _ (bif Nat.beq d i then _ else look t i) _
  cases hb : Nat.beq d i with
  | true =>
    have := Nat.eq_of_beq_eq_true hb
    subst this
    have hr := e4.rel d
    rw [hd] at hr
    exact RelV.adopt e3.hr (by rw [e2]; simp) hr
  | false => exact (e4.rel i).mono hx.toExt0

/-- A slice without spare places that lies in a slot becomes a row of the activation's own. -/
theorem WpA.adoptN {code : Code} {z : Nat} {xs : List (List AV)} (d : Nat) (hd : look t d = .sl .full z xs) (h : WpA E ro n code K ((d, .sl (.row H.length L.length) z xs) :: t) (H ++ (L ++ [.tail xs.length z]))) : WpA E ro n code K t (H ++ L) := by
  refine ⟨?_⟩
  intro cd c0 c a e1 e2 e3 e4 e5
  have hx := Ext.adopt c z e3.hr (n0 := xs.length)
  have hh := e3.hr.adopt z (n0 := xs.length)
  refine h.out cd c0 (c.adopt z xs.length) a (e1.trans hx) (by show c.H ++ _ = _; rw [e2]; simp) (e3.step hx hh) ⟨e4.size, fun i => ?_⟩ (e5.mono hx rfl)
  show RelV _ (bif Nat.beq d i then _ else look t i) _
  cases hb : Nat.beq d i with
  | true =>
    have := Nat.eq_of_beq_eq_true hb
    subst this
    have hr := e4.rel d
    rw [hd] at hr
    exact RelV.adoptN e3.hr (by rw [e2]; simp) hr
  | false => exact (e4.rel i).mono hx.toExt0

/-- .. one that lies in a box of its own. -/
theorem WpA.adoptC {code : Code} {z0 j q : Nat} {cs : List AV} (z : Nat) (hL : L[j]? = some (.cells cs)) (hc : cs[q]? = some (.sl .full z0 [])) (h : WpA E ro n code K t (H ++ (L.set j (.cells (cs.set q (.sl (.row H.length L.length) z []))) ++ [.tail 0 z]))) : WpA E ro n code K t (H ++ L) := by
  refine ⟨?_⟩
  intro cd c0 c a e1 e2 e3 e4 e5
  have hx := Ext.adopt c z e3.hr
  have hh := e3.hr.adopt z
  have hcs : c.H[H.length + j]? = some (.cells cs) := by rw [e2]; exact app_get rfl hL
  have hcs' : (c.adopt z).H[H.length + j]? = some (.cells cs) := adopt_get.2 (.inl hcs)
  have hN : H.length + L.length = c.H.length := by rw [e2]; simp
  obtain ⟨r1, r2⟩ := recell (cs' := cs.set q (.sl (.row H.length L.length) z [])) hh hcs' (by simp) (fun i a0 a1 v h1 h2 hr => by
    rw [List.getElem?_set] at h1
    by_cases hq : q = i
    · subst hq
      rw [if_pos rfl, if_pos (List.getElem?_eq_some_iff.1 hc).1] at h1
      injection h1 with h1
      subst h1
      rw [hc] at h2
      injection h2 with h2
      subst h2
      -- the relation of an empty slice asks nothing of the heap
      cases hr with
      | sl vs hl hcap hz ht hf hr =>
        rename_i a len cap
        have hl0 : len = 0 := hl.symm
        subst hl0
        have hc0 : cap = 0 := ht
        subst hc0
        have hr0 : RelV c (.sl .full z0 []) (.slice a 0 0) := .sl (fun _ _ => undef) rfl (Nat.le_refl _) (by simp) rfl (fun i j hi => by omega) (fun i j l e h => by simp at h)
        exact RelV.adopt e3.hr hN hr0
    · rw [if_neg hq, h2] at h1
      injection h1 with h1
      subst h1
      exact hr)
  have hxx := hx.trans r1
  refine h.out cd c0 { c.adopt z with H := (c.adopt z).H.set (H.length + j) (.cells (cs.set q (.sl (.row H.length L.length) z []))) } a (e1.trans hxx) ?_ (e3.step hxx r2) (e4.mono hxx) (e5.mono hxx rfl)
  show (c.H ++ [AObj.tail 0 z]).set (H.length + j) _ = _
  have hj := get_lt hL
  rw [e2, List.append_assoc, set_app, List.set_append, if_pos hj]

/-- A call inside a statement that writes. -/
theorem doesH_call {g : Nat} {caps : List AV} {f : Operand} {xs : List Operand} {ats : Array TypeId} {r : AV}
    (hop : o.op = .call { callee := .value f, args := ⟨xs⟩, argTypes := ats }) (hf : evalA E.G t f = .func g caps)
    (hc : CallsA E g (evalL E.G t xs ++ caps) H (fun x H1 => H1 = H' ∧ x = .ret r)) : DoesH E ro n o (restr (o.looksAt ops) (look t)) H H' r := by
  have hnd : notDefer o := fun cc e => by rw [hop] at e; cases e
  refine ⟨hnd, fun c a K Q e2 e3 e4 hK => ?_⟩
  rw [← look_cut_fn] at e4
  have e4 := e4.sr
  have hfr := eval_rel e3 e4 f
  have hmem : ∀ x, x = f ∨ x ∈ xs → x ∈ o.op.operands := fun x hx => by
    rw [hop]
    simp only [Op.operands, Call.operands]
    rcases hx with rfl | hx <;> simp [*]
  rw [evalA_cut (hmem f (.inl rfl)), hf] at hfr
  have hargs0 := evalL_rel e3 e4 xs
  rw [evalL_congr fun x hx => evalA_cut (hmem x (.inr hx))] at hargs0
  generalize hv : a.eval f = v at hfr
  cases hfr with
  | func ws hl hr =>
    have hargs := hargs0.append (bs := caps) (us := ws) ⟨hl, hr⟩
    have hcall := hc.out c _ e2 e3 hargs
    have hrun : (execOp a.eval o).run E.P c.w = (callFunc g (xs.map a.eval ++ ws).toArray).run E.P c.w := by
      simp [execOp, hop, resolve, hv, Deferred.ofValue, invoke]
    rw [hrun]
    revert hcall
    cases (callFunc g (xs.map a.eval ++ ws).toArray).run E.P c.w with
    | halt x w => intro h; exact h.elim
    | ok nx w =>
      cases nx <;> intro hcall <;> try exact hcall.elim
      case value v' =>
        obtain ⟨ι', H', x, a1, a2, a3, rfl, rfl⟩ := hcall
        rw [Oper.uponIn_value]
        exact hK ι' w v' a1 a2 a3
      case enter f' args' =>
        rw [Oper.uponIn_enter]
        refine ⟨fun h => (by rw [Fc_depth] at h; simp at h), ?_⟩
        rw [Fc_calls]
        refine Calls.mono hcall ?_
        rintro e w' ⟨ι', H', x, a1, a2, a3, rfl, rfl⟩
        cases e with
        | returned v' => exact hK ι' w' v' a1 a2 a3
        | panicked chain => exact a3.elim
        | outgrown => exact a3.elim

theorem LexH.call {g : Nat} {caps : List AV} {f : Operand} {xs : List Operand} {ats : Array TypeId} {r : AV}
    (hw : wantedA ops t o = some true) (hd : o.dst = some d) (hdn : Nat.blt d n = true) (hcl : cl.getD k 2 = 1) (hop : o.op = .call { callee := .value f, args := ⟨xs⟩, argTypes := ats }) (hf : evalA E.G t f = .func g caps)
    (hc : CallsA E g (evalL E.G t xs ++ caps) H (Is H r))
    (hk : LexH E ro n ids ops cl Kc rest (k + 1) ((d, r) :: t) H) : LexH E ro n ids ops cl Kc (o :: rest) k t H :=
  .cons r H ⟨dst_some hd hdn, .inl ⟨hw, by rw [hcl]; exact ⟨rfl, doesH_call hop hf hc⟩⟩⟩ (by rw [hd]; exact hk)

/-- A call that the heap does not matter to. -/
theorem LexH.call0 {g : Nat} {caps : List AV} {f : Operand} {xs : List Operand} {ats : Array TypeId} {r : AV}
    (hw : wantedA ops t o = some true) (hd : o.dst = some d) (hdn : Nat.blt d n = true) (hcl : cl.getD k 2 = 0) (hop : o.op = .call { callee := .value f, args := ⟨xs⟩, argTypes := ats }) (hf : evalA E.G t f = .func g caps)
    (hc : ∀ H, CallsA E g (evalL E.G t xs ++ caps) H (Is H r))
    (hk : LexH E ro n ids ops cl Kc rest (k + 1) ((d, r) :: t) H) : LexH E ro n ids ops cl Kc (o :: rest) k t H :=
  .cons r H ⟨dst_some hd hdn, .inl ⟨hw, by rw [hcl]; exact ⟨rfl, fun H0 => doesH_call hop hf (hc H0)⟩⟩⟩ (by rw [hd]; exact hk)

/-! ### Quotients -/
def quoA (op : BinOp) (x y : AV) : Option AV :=
  match x, y with
  | .int k a, .int k' (.ofNat (m + 1)) => if k = k' then match op with
    | .quo => some (.int k (k.wrap (a.tdiv (m + 1))))
    | .rem => some (.int k (a.tmod (m + 1)))
    | _ => none
    else none
  | _, _ => none

theorem P1.quo {op : BinOp} {ty : Nat} {x y : Operand} {yt : TypeId} {av : AV} (hop : o.op = .binOp op ty x y yt) (h : quoA op (evalA E.G t x) (evalA E.G t y) = some av) : P1 E n H H o t av :=
  .still (fun cc e => by rw [hop] at e; cases e) (fun c a hH ho sr => by
    have hxr := eval_rel ho sr x
    have hyr := eval_rel ho sr y
    unfold quoA at h
    split at h <;> try (simp at h; done)
    rename_i k p k' m hx hy
    rw [hx] at hxr
    rw [hy] at hyr
    generalize hv : a.eval x = v at hxr
    generalize hv2 : a.eval y = v2 at hyr
    cases hxr; cases hyr
    split at h <;> try (simp at h; done)
    rename_i hk
    subst hk
    have hne : (Int.ofNat (m + 1)) ≠ 0 := by intro e; cases e
    split at h
    · injection h with h; subst h
      refine ⟨_, ?_, .int⟩
      simp only [execOp, hop, hv, hv2, Sem.run_bind]
      rw [eqGuard_plain (by simp) (by simp)]
      simp [binOp, Op.intDiv, hne]
      intro h
      omega
    · injection h with h; subst h
      refine ⟨_, ?_, .int⟩
      simp only [execOp, hop, hv, hv2, Sem.run_bind]
      rw [eqGuard_plain (by simp) (by simp)]
      simp [binOp, Op.intDiv, hne]
      intro h
      omega
    · simp at h)

theorem WpOps.quo {op : BinOp} {ty : Nat} {x y : Operand} {yt : TypeId} (av : AV) (hw : wantedA ops t o = some true) (hd : o.dst = some d) (hdn : Nat.blt d n = true) (hop : o.op = .binOp op ty x y yt) (h : quoA op (evalA E.G t x) (evalA E.G t y) = some av)
    (hk : WpOps E ro n ops rest K ((d, av) :: t) H) : WpOps E ro n ops (o :: rest) K t H := .p1 hw hd hdn (.quo hop h) hk

/-! ### Slices of slices -/
def BndOk (G : GEnv) (t : Slots) (dflt m : Nat) : Option Operand → Prop
  | none => m = dflt
  | some x => ∃ k i, evalA G t x = .int k i ∧ 0 ≤ i ∧ i.toNat = m

theorem P1.slice {ty e z : Nat} {j : TI} {x : Operand} {lo hi : Option Operand} {tg : Tag} {xs : List (List AV)} (p q : Nat) (hop : o.op = .slice ty x lo hi none) (hs : sliceOf E.T ty = some (e, j)) (hx : evalA E.G t x = .sl tg z xs) (hz : j.sz = z)
    (hlo : BndOk E.G t 0 p lo) (hhi : BndOk E.G t xs.length q hi) (hpq : p ≤ q) (hq : q ≤ xs.length) : P1 E n H H o t (.sl .no z ((xs.take q).drop p)) :=
  .still (fun cc e => by rw [hop] at e; cases e) (fun c a hH ho sr => by
    obtain ⟨hu, hj⟩ := sliceOf_spec hs
    have hxr := eval_rel ho sr x
    rw [hx] at hxr
    generalize hv : a.eval x = v at hxr
    cases hxr with
    | sl vs hlen hc hzz ht hf hr =>
      rename_i ad len cap
      have hrhi : (match hi.map a.eval with | some v => Instr.sliceBound v cap .sliceAcap | none => pure len : Sem Nat).run E.P c.w = .ok q c.w := by
        cases hi with
        | none =>
          have : q = xs.length := hhi
          simp [this, hlen]
        | some y =>
          obtain ⟨k, i, h1, h2, h3⟩ := hhi
          have hyr := eval_rel ho sr y
          rw [h1] at hyr
          generalize hv2 : a.eval y = v2 at hyr
          cases hyr
          have : 0 ≤ i ∧ i ≤ (cap : Int) := ⟨h2, by omega⟩
          simp [hv2, Instr.sliceBound, asIntOf, this, h3]
      have hrlo : (match lo.map a.eval with | some v => Instr.sliceBound v q .sliceB | none => pure 0 : Sem Nat).run E.P c.w = .ok p c.w := by
        cases lo with
        | none =>
          have : p = 0 := hlo
          simp [this]
        | some y =>
          obtain ⟨k, i, h1, h2, h3⟩ := hlo
          have hyr := eval_rel ho sr y
          rw [h1] at hyr
          generalize hv2 : a.eval y = v2 at hyr
          cases hyr
          have : 0 ≤ i ∧ i ≤ (q : Int) := ⟨h2, by omega⟩
          simp [hv2, Instr.sliceBound, asIntOf, this, h3]
      have hb : (Instr.sliceBounds true len cap (lo.map a.eval) (hi.map a.eval) none).run E.P c.w = .ok (p, q, cap) c.w := by
        unfold Instr.sliceBounds
        cases hi with
        | none =>
          simp only [Option.map_none] at hrhi ⊢
          cases lo with
          | none =>
            simp only [Option.map_none] at hrlo ⊢
            simp at hrhi hrlo ⊢
            exact ⟨hrlo, hrhi⟩
          | some y =>
            simp only [Option.map_some] at hrlo ⊢
            simp at hrhi
            subst hrhi
            simp [hrlo]
        | some y' =>
          simp only [Option.map_some] at hrhi ⊢
          cases lo with
          | none =>
            simp only [Option.map_none] at hrlo ⊢
            simp at hrlo
            subst hrlo
            simp [hrhi]
          | some y =>
            simp only [Option.map_some] at hrlo ⊢
            simp [hrhi, hrlo]
      refine ⟨.slice (if cap = p then ad else ad.map (·.add (p * z))) (q - p) (cap - p), ?_, ?_⟩
      · simp only [execOp, hop, Option.map_none]
        simp only [Instr.sliceAt, Sem.run_bind, run_underlying hu, Result.andThen_ok, hv, Instr.slice, hb, run_sizeOf hj, hz, Sem.run_pure]
      · refine .sl (fun i w => vs (p + i) w) (by simp; omega) (by omega) (fun y hy => hzz y (List.mem_of_mem_take (List.mem_of_mem_drop hy))) trivial (fun i w hi' hw => ?_) (fun i w r y h1 h2 => ?_)
        · obtain ⟨ad', g1, g2, g3⟩ := hf (p + i) w (by omega) hw
          subst g1
          rw [if_neg (by omega)]
          refine ⟨_, rfl, addr_add_spot _ g2 _, ?_⟩
          rw [addr_add_add _ g2]
          have : p * z + (i * z + w) = (p + i) * z + w := by rw [Nat.add_mul]; omega
          rw [this]
          exact g3
        · rw [List.getElem?_drop, List.getElem?_take] at h1
          split at h1
          · exact hr (p + i) w r y h1 h2
          · cases h1)

theorem WpOps.slice {ty e z : Nat} {j : TI} {x : Operand} {lo hi : Option Operand} {tg : Tag} {xs : List (List AV)} (p q : Nat) (hw : wantedA ops t o = some true) (hd : o.dst = some d) (hdn : Nat.blt d n = true) (hop : o.op = .slice ty x lo hi none) (hs : sliceOf E.T ty = some (e, j)) (hx : evalA E.G t x = .sl tg z xs) (hz : j.sz = z)
    (hlo : BndOk E.G t 0 p lo) (hhi : BndOk E.G t xs.length q hi) (hpq : p ≤ q) (hq : q ≤ xs.length)
    (hk : WpOps E ro n ops rest K ((d, .sl .no z ((xs.take q).drop p)) :: t) H) : WpOps E ro n ops (o :: rest) K t H := .p1 hw hd hdn (.slice p q hop hs hx hz hlo hhi hpq hq) hk
end
end Go.Gp
