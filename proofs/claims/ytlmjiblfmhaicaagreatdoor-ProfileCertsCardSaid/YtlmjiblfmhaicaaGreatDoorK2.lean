/- Part of a proof: GpA2, GpA3 -/
import Derived.Test.YtlmjiblfmhaicaaGreatDoorK1
import Derived.RangeFuncLeaves
import Derived.TacticsIn

set_option linter.unusedSectionVars false

/- The abstract state of an activation, the abstract wp of code, and its rules for control; a function's abstract contract. -/
namespace Go.Gp
open Go.RowKit
set_option linter.unusedVariables false

/-! ### Types, as a table -/
inductive TD where
  | basic
  | int (k : IntKind)
  | str
  | struct (fs : List (Nat × Nat))
  | array (n e : Nat)
  | slice (e : Nat)
  | map (k e : Nat)
  | ptr (e : Nat)
  | iface
  | fn

def TD.ok : TD → TypeDesc → Prop
  | .basic, d => d = .bool
  | .int k, d => d = .int k
  | .str, d => d = .string
  | .struct fs, d => ∃ gs, d = .struct gs ∧ gs.toList.map (fun f => (f.offset, f.type)) = fs
  | .array n e, d => d = .array n e
  | .slice e, d => d = .slice e
  | .map k e, d => d = .map k e
  | .ptr e, d => d = .pointer e
  | .iface, d => ∃ ms, d = .interface ms
  | .fn, d => ∃ ps rs v, d = .func ps rs v

def TD.agg : TD → Bool
  | .struct _ | .array _ _ => true
  | _ => false

structure TI where
  d : TD
  sz : Nat
  zero : Value
  bytes : Nat

structure TI.ok (P : Program) (t : Nat) (i : TI) : Prop where
  u : ∃ d, P.underlying t = some d ∧ i.d.ok d
  info : (P.info? t).map (fun x => (x.zero, x.size, x.bytes)) = some (some i.zero, i.sz, i.bytes)

def lookT : List (Nat × TI) → Nat → Option TI
  | [], _ => none
  | (j, v) :: r, i => bif Nat.beq j i then some v else lookT r i

theorem lookT_mem : ∀ {T : List (Nat × TI)} {t : Nat} {i : TI}, lookT T t = some i → (t, i) ∈ T
  | [], _, _, h => by simp [lookT] at h
  | (j, v) :: r, t, i, h => by
    unfold lookT at h
    cases hb : Nat.beq j t with
    | true =>
      rw [hb] at h
      simp at h
      have := Nat.eq_of_beq_eq_true hb
      subst this; subst h
      exact List.mem_cons_self
    | false =>
      rw [hb] at h
      exact List.mem_cons_of_mem _ (lookT_mem (by simpa using h))

structure Env where
  P : Program
  T : List (Nat × TI)
  hT : ∀ e ∈ T, TI.ok P e.1 e.2
  G : GEnv
  mixed : P.follows .mixedOrders = true
  /-- Whether there may be loops over iterators. -/
  marks : Bool := true

theorem Env.ti {E : Env} {t : Nat} {i : TI} (h : lookT E.T t = some i) : TI.ok E.P t i := E.hT _ (lookT_mem h)

/-! ### An activation's slots -/
abbrev Slots := List (Nat × AV)

/-- A temporary that was not written: its operation was skipped. -/
abbrev undefA : AV := .tup []

structure SR (c : Cfg) (n : Nat) (t : Slots) (a : Act) : Prop where
  size : a.tmps.size = n
  rel : ∀ i, RelV c (look t i) (a.tmps.getD i undef)

theorem SR.mono {c c' : Cfg} {n : Nat} {t : Slots} {a : Act} (h : Ext c c') (s : SR c n t a) : SR c' n t a := ⟨s.size, fun i => (s.rel i).mono h.toExt0⟩

theorem SR.put {c : Cfg} {n : Nat} {t : Slots} {a : Act} (s : SR c n t a) {d : Nat} {av : AV} {v : Value} (hd : Nat.blt d n = true) (hv : RelV c av v) : SR c n ((d, av) :: t) (a.put (some d) v) := by
  have hlt : d < n := by simpa using hd
  refine ⟨by simp [Act.put, s.size], fun i => ?_⟩
  unfold look
  cases hb : Nat.beq d i with
  | true =>
    have := Nat.eq_of_beq_eq_true hb
    subst this
    simp only [Act.put, cond_true]
    rw [Array.getD_eq_getD_getElem?, Array.getElem?_setIfInBounds, if_pos rfl, if_pos (by rw [s.size]; exact hlt)]
    exact hv
  | false =>
    have hne : d ≠ i := fun e => by subst e; simp at hb
    simp only [Act.put, cond_false]
    rw [Array.getD_eq_getD_getElem?, Array.getElem?_setIfInBounds, if_neg hne, ← Array.getD_eq_getD_getElem?]
    exact s.rel i

/-- What is said of a slot more often is the same. -/
theorem SR.look_cons {c : Cfg} {n : Nat} {t : Slots} {a : Act} (s : SR c n t a) {d : Nat} {av : AV} (h : look t d = av) : SR c n ((d, av) :: t) a := by
  refine ⟨s.size, fun i => ?_⟩
  unfold look
  cases hb : Nat.beq d i with
  | true => have := Nat.eq_of_beq_eq_true hb; subst this; simp only [cond_true]; rw [← h]; exact s.rel d
  | false => simp only [cond_false]; exact s.rel i

def marksOf (D : List Nat) : List Deferred := D.map fun b => ({ target := .collected b, args := #[] } : Deferred)

/-- The marks of this activation's loops over iterators. -/
abbrev DC0 := Cfg × List Deferred
abbrev DC := DC0 × Bool
def DefOk (c0 : DC) (c : Cfg) (a : Act) : Prop := ∃ D : List Nat, a.defers = marksOf D ++ c0.1.2 ∧ (c0.2 = false → D = []) ∧ D.Nodup ∧ c0.1.1.w.heap.size ≤ c.w.heap.size ∧ ∀ b ∈ D, c.w.heap[b]? = some (.deferred (some [])) ∧ c0.1.1.w.heap.size ≤ b ∧ ∀ (id : Nat) o, c.H[id]? = some o → o.live = true → c.ι id ≠ some b

theorem block_lt {w : World} {b : Nat} {o : Obj} (h : w.heap[b]? = some o) : b < w.heap.size := (Array.getElem?_eq_some_iff.1 h).1

theorem DefOk.mono {c0 : DC} {c c' : Cfg} {a a' : Act} (h : Ext c c') (ha : a'.defers = a.defers) (hd : DefOk c0 c a) : DefOk c0 c' a' := by
  obtain ⟨D, h1, hfl, hn, hs, h2⟩ := hd
  refine ⟨D, ha.trans h1, hfl, hn, Nat.le_trans hs h.size, fun b hb => ?_⟩
  obtain ⟨h3, h4, h5⟩ := h2 b hb
  have hlt := block_lt h3
  refine ⟨(h.outer b hlt h5).trans h3, h4, fun id o ho hl hi => ?_⟩
  obtain ⟨i', o', ho', hl', hi'⟩ := h.nw id b o ho hl hi hlt
  exact h5 i' o' ho' hl' hi'

inductive AX where
  | normal
  | exit (id : Nat)
  | ret
  | panic (v : AV)

def XR (c : Cfg) : AX → Exit → Prop
  | .normal, .normal => True
  | .exit i, .exit j => i = j
  | .ret, .ret => True
  | .panic a, .panic chain => ∃ v, chain = [{ v := v, recovered := false }] ∧ RelV c a v
  | _, _ => False

abbrev Kont := AX → Slots → List AObj → Prop

def Post (G : GEnv) (n : Nat) (cd : DC) (c0 : Cfg) (K : Kont) : Exit → Act → World → Prop := fun e a w =>
  ∃ ι H t x, Ext c0 ⟨ι, H, w⟩ ∧ Ok G ⟨ι, H, w⟩ ∧ SR ⟨ι, H, w⟩ n t a ∧ DefOk cd ⟨ι, H, w⟩ a ∧ XR ⟨ι, H, w⟩ x e ∧ K x t H

theorem Post.mk {G : GEnv} {n : Nat} {cd : DC} {c0 c : Cfg} {K : Kont} {e : Exit} {a : Act} {t : Slots} (x : AX) (h : Ext c0 c) (ho : Ok G c) (hs : SR c n t a) (hd : DefOk cd c a) (hx : XR c x e) (hK : K x t c.H) : Post G n cd c0 K e a c.w :=
  ⟨c.ι, c.H, t, x, h, ho, hs, hd, hx, hK⟩

def Fc : Option Nat → Fence
  | none => Fence.wide
  | some l => Fence.wide.inRound l

theorem Fc_round (ro : Option Nat) : (Fc ro).round = ro := by cases ro <;> rfl
theorem Fc_fn (ro : Option Nat) (f : FuncId) : (Fc ro).fn f := by cases ro <;> trivial
theorem Fc_depth (ro : Option Nat) : (Fc ro).depth = none := by cases ro <;> rfl
theorem Fc_calls {ro : Option Nat} {n : Nat} {P : Program} {f : FuncId} {args : Array Value} {w : World} {R : Ending → World → Prop} : CallsIn (Fc ro) n P f args w R ↔ Calls P f args w R := by
  cases ro with
  | none => exact callsIn_wide
  | some l => exact callsIn_wide (n := n)

structure WpA (E : Env) (ro : Option Nat) (n : Nat) (code : Code) (K : Kont) (t : Slots) (H : List AObj) : Prop where
  out : ∀ (cd : DC0) (c0 c : Cfg) (a : Act), Ext c0 c → c.H = H → Ok E.G c → SR c n t a → DefOk (cd, E.marks) c a → code.wpIn (Fc ro) 0 E.P (Post E.G n (cd, E.marks) c0 K) a c.w

structure WpOps (E : Env) (ro : Option Nat) (n : Nat) (ops : Array Oper) (l : List Oper) (K : Kont) (t : Slots) (H : List AObj) : Prop where
  out : ∀ (cd : DC0) (c0 c : Cfg) (a : Act), Ext c0 c → c.H = H → Ok E.G c → SR c n t a → DefOk (cd, E.marks) c a → wpListIn (Fc ro) 0 E.P ops (Post E.G n (cd, E.marks) c0 K) l a c.w

section rules
variable {E : Env} {ro : Option Nat} {n : Nat} {K : Kont} {t : Slots} {H : List AObj}

theorem WpA.mono {code : Code} {K' : Kont} (h : WpA E ro n code K t H) (hk : ∀ x t H, K x t H → K' x t H) : WpA E ro n code K' t H :=
  ⟨fun cd c0 c a e1 e2 e3 e4 e5 => wpIn_mono (h.out cd c0 c a e1 e2 e3 e4 e5) fun e a w ⟨ι, H, t, x, h1, h2, h3, h4, h5, h6⟩ => ⟨ι, H, t, x, h1, h2, h3, h4, h5, hk x t H h6⟩⟩

theorem WpA.skip (h : K .normal t H) : WpA E ro n .skip K t H := ⟨fun cd c0 c a e1 e2 e3 e4 e5 => wpIn_skip (Post.mk .normal e1 e3 e4 e5 trivial (by rw [e2]; exact h))⟩
theorem WpA.exit {id : Nat} (h : K (.exit id) t H) : WpA E ro n (.exit id) K t H := ⟨fun cd c0 c a e1 e2 e3 e4 e5 => wpIn_exit (Post.mk (.exit id) e1 e3 e4 e5 rfl (by rw [e2]; exact h))⟩
theorem WpA.ret (h : K .ret t H) : WpA E ro n .ret K t H := ⟨fun cd c0 c a e1 e2 e3 e4 e5 => wpIn_ret (Post.mk .ret e1 e3 e4 e5 trivial (by rw [e2]; exact h))⟩

/-- What stands behind: met where the first part ends normally. -/
def thenK (K1 : Slots → List AObj → Prop) (K : Kont) : Kont
  | .normal, t, H => K1 t H
  | x, t, H => K x t H

theorem WpA.seq {x y : Code} (h : WpA E ro n x (thenK (WpA E ro n y K) K) t H) : WpA E ro n (.seq x y) K t H := by
  refine ⟨?_⟩
  intro cd c0 c a e1 e2 e3 e4 e5
  refine wpIn_seq (wpIn_mono (h.out cd c0 c a e1 e2 e3 e4 e5) ?_)
  rintro e a' w' ⟨ι, H', t', x', h1, h2, h3, h4, h5, h6⟩
  cases e with
  | normal =>
    cases x' <;> try exact h5.elim
    exact h6.out cd c0 ⟨ι, H', w'⟩ a' h1 rfl h2 h3 h4
  | exit id => cases x' <;> first | exact h5.elim | exact ⟨ι, H', t', _, h1, h2, h3, h4, h5, h6⟩
  | goto l => cases x' <;> exact h5.elim
  | ret => cases x' <;> first | exact h5.elim | exact ⟨ι, H', t', _, h1, h2, h3, h4, h5, h6⟩
  | panic ch => cases x' <;> first | exact h5.elim | exact ⟨ι, H', t', _, h1, h2, h3, h4, h5, h6⟩
  | outgrown => cases x' <;> exact h5.elim

def blockK (id : Nat) (K : Kont) : Kont
  | .exit i, t, H => if i = id then K .normal t H else K (.exit i) t H
  | x, t, H => K x t H

theorem WpA.block {id : Nat} {x : Code} (h : WpA E ro n x (blockK id K) t H) : WpA E ro n (.block id x) K t H := by
  refine ⟨?_⟩
  intro cd c0 c a e1 e2 e3 e4 e5
  refine wpIn_block (wpIn_mono (h.out cd c0 c a e1 e2 e3 e4 e5) ?_)
  rintro e a' w' ⟨ι, H', t', x', h1, h2, h3, h4, h5, h6⟩
  cases e with
  | normal => cases x' <;> first | exact h5.elim | exact ⟨ι, H', t', _, h1, h2, h3, h4, h5, h6⟩
  | exit i =>
    cases x' <;> try exact h5.elim
    rename_i j
    have hj : j = i := h5
    subst hj
    simp only [Exit.inBlock]
    simp only [blockK] at h6
    split
    · rename_i hi
      rw [if_pos hi] at h6
      exact ⟨ι, H', t', .normal, h1, h2, h3, h4, trivial, h6⟩
    · rename_i hi
      rw [if_neg hi] at h6
      exact ⟨ι, H', t', .exit j, h1, h2, h3, h4, rfl, h6⟩
  | goto l => cases x' <;> exact h5.elim
  | ret => cases x' <;> first | exact h5.elim | exact ⟨ι, H', t', _, h1, h2, h3, h4, h5, h6⟩
  | panic ch => cases x' <;> first | exact h5.elim | exact ⟨ι, H', t', _, h1, h2, h3, h4, h5, h6⟩
  | outgrown => cases x' <;> exact h5.elim

/-! ### Constants and operands -/
def const1 : Value → AV
  | .int k n => .int k n
  | .bool b => .bool b
  | .string s => .str s.data.toList
  | .pointer none => .nilp
  | .slice none 0 0 => .sl .full 0 []
  | .nilFunc => .nilf
  | .nilIface => .nili
  | .map none => .nilm
  | _ => .unk

def constA : Value → AV
  | .agg ⟨cs⟩ => .agg (cs.map const1)
  | .tuple ⟨cs⟩ => .tup (cs.map const1)
  | .iface t v => .iface t (const1 v)
  | v => const1 v

theorem const1_rel (c : Cfg) (v : Value) : RelV c (const1 v) v := by
  unfold const1
  split
  · exact .int
  · exact .bool
  · rename_i s
    have : (Value.string s) = .string ⟨s.data.toList.toArray⟩ := by simp
    rw [this]; simpa using RelV.str (c := c) (s := s.data.toList)
  · exact .nilp
  · exact .sl (fun _ _ => undef) rfl (Nat.le_refl _) (by simp) rfl (fun i j hi => by omega) (fun i j l e h => by simp at h)
  · exact .nilf
  · exact .nili
  · exact .nilm
  · exact .unk

theorem const1_relL (c : Cfg) : ∀ vs : List Value, RelL c (vs.map const1) vs
  | [] => RelL.nil c
  | v :: vs => RelL.cons (const1_rel c v) (const1_relL c vs)

theorem constA_rel (c : Cfg) (v : Value) : RelV c (constA v) v := by
  unfold constA
  split
  · rename_i cs; have h := const1_relL c cs; exact .agg cs h.1 h.2
  · rename_i cs; have h := const1_relL c cs; exact .tup cs h.1 h.2
  · exact .iface (const1_rel c _)
  · exact const1_rel c _

def evalA (G : GEnv) (t : Slots) : Operand → AV
  | .tmp i => look t i
  | .const v => constA v
  | .global g => match G g with | some cs => .rp cs | none => .unk
  | .func f => .func f []

theorem eval_rel {G : GEnv} {c : Cfg} {n : Nat} {t : Slots} {a : Act} (ho : Ok G c) (s : SR c n t a) (x : Operand) : RelV c (evalA G t x) (a.eval x) := by
  cases x with
  | tmp i => exact s.rel i
  | const v => exact constA_rel c v
  | global g =>
    simp only [evalA, Act.eval]
    cases hg : G g with
    | some cs => exact ho.glob g cs hg
    | none => exact .unk
  | func f => exact .func [] rfl (fun i a v h => by simp at h)

theorem RelV.bool_inv {c : Cfg} {b : Bool} {v : Value} (h : RelV c (.bool b) v) : v = .bool b := by cases h; rfl

theorem WpA.cond {o : Operand} {x y : Code} (b : Bool) (hc : evalA E.G t o = .bool b) (h1 : b = true → WpA E ro n x K t H) (h2 : b = false → WpA E ro n y K t H) : WpA E ro n (.cond o x y) K t H := by
  refine ⟨?_⟩
  intro cd c0 c a e1 e2 e3 e4 e5
  have hr := eval_rel e3 e4 o
  rw [hc] at hr
  refine wpIn_cond_split (t := b) hr.bool_inv (fun hb => (h1 hb).out cd c0 c a e1 e2 e3 e4 e5) (fun hb => (h2 hb).out cd c0 c a e1 e2 e3 e4 e5)

theorem WpA.region {id : Nat} {l : List Oper} (h : WpOps E ro n l.toArray l K t H) : WpA E ro n (.region id l.toArray false) K t H :=
  ⟨fun cd c0 c a e1 e2 e3 e4 e5 => wpIn_region_lit (h.out cd c0 c a e1 e2 e3 e4 e5)⟩

theorem WpOps.nil {ops : Array Oper} (h : K .normal t H) : WpOps E ro n ops [] K t H :=
  ⟨fun cd c0 c a e1 e2 e3 e4 e5 => wpListIn_nil (Post.mk .normal e1 e3 e4 e5 trivial (by rw [e2]; exact h))⟩

/-- A loop: I m: what holds at a round's head, m going down. -/
theorem WpA.loop {body : Code} (I : Nat → Slots → List AObj → Prop) (m : Nat) (h0 : I m t H)
    (hr : ∀ m t H, I m t H → WpA E ro n body (thenK (fun t' H' => ∃ m', m' < m ∧ I m' t' H') K) t H) : WpA E ro n (.loop body) K t H := by
  refine ⟨?_⟩
  intro cd c0 c a e1 e2 e3 e4 e5 b k cs hro hb hrm
  have key : ∀ j (m : Nat) (t : Slots) (H : List AObj) (c : Cfg) (a : Act), m = j → I m t H → Ext c0 c → c.H = H → Ok E.G c → SR c n t a → DefOk (cd, E.marks) c a →
      ∃ e a' w', Post E.G n (cd, E.marks) c0 K e a' w' ∧ ArrivesIn (Machine.fenced E.P (Fc ro)) E.P (lone (b.atR a (.code body :: .inLoop body :: k)) cs c.w) b k cs e a' w' := by
    intro j
    induction j using Nat.strongRecOn with
    | _ j ih =>
      intro m t H c a hm hI e1 e2 e3 e4 e5
      obtain ⟨e, a₁, w₁, hq, harr⟩ := (hr m t H hI).out cd c0 c a e1 e2 e3 e4 e5 b (.inLoop body :: k) cs hro hb hrm
      obtain ⟨ι, H', t', x', h1, h2, h3, h4, h5, h6⟩ := hq
      cases e with
      | normal =>
        cases x' <;> try exact h5.elim
        obtain ⟨m', hlt, hI'⟩ := h6
        obtain ⟨e₂, a₂, w₂, hq₂, harr₂⟩ := ih m' (hm ▸ hlt) m' t' H' ⟨ι, H', w₁⟩ a₁ rfl hI' h1 rfl h2 h3 h4
        exact ⟨e₂, a₂, w₂, hq₂, .of_steps (StepsIn.trans harr (.one (fenced_calm hb hrm rfl) stepR_inLoop)) harr₂⟩
      | exit id => cases x' <;> first | exact h5.elim | exact ⟨_, a₁, w₁, ⟨ι, H', t', _, h1, h2, h3, h4, h5, h6⟩, .pass (x := .inLoop body) rfl (fun _ _ => .inl (by simp)) harr⟩
      | goto l => cases x' <;> exact h5.elim
      | ret => cases x' <;> first | exact h5.elim | exact ⟨_, a₁, w₁, ⟨ι, H', t', _, h1, h2, h3, h4, h5, h6⟩, .pass (x := .inLoop body) rfl (fun _ _ => .inl (by simp)) harr⟩
      | panic ch => cases x' <;> first | exact h5.elim | exact ⟨_, a₁, w₁, ⟨ι, H', t', _, h1, h2, h3, h4, h5, h6⟩, .pass (x := .inLoop body) rfl (fun _ _ => .inl (by simp)) harr⟩
      | outgrown => cases x' <;> exact h5.elim
  obtain ⟨e, a', w', hq, harr⟩ := key m m t H c a rfl h0 e1 e2 e3 e4 e5
  exact ⟨e, a', w', hq, .of_steps (.one (fenced_calm hb hrm rfl) stepR_loop) harr⟩
end rules

/-! ### Contracts -/
inductive AEnd where
  | ret (r : AV)
  | panic (v : AV)

def EndR (c : Cfg) : AEnd → Ending → Prop
  | .ret r, .returned v => RelV c r v
  | .panic r, .panicked chain => ∃ v, chain = [{ v := v, recovered := false }] ∧ RelV c r v
  | _, _ => False

def PostC (G : GEnv) (c0 : Cfg) (R : AEnd → List AObj → Prop) : Ending → World → Prop := fun e w =>
  ∃ ι H x, Ext c0 ⟨ι, H, w⟩ ∧ Ok G ⟨ι, H, w⟩ ∧ EndR ⟨ι, H, w⟩ x e ∧ R x H

def UponC (P : Program) (Q : Ending → World → Prop) : Result Next → Prop
  | .ok (.enter f args) w => Calls P f args w Q
  | .ok (.value v) w => Q (.returned v) w
  | _ => False

/-- Called with such arguments over such a heap, the function ends so. -/
structure CallsA (E : Env) (g : FuncId) (args : List AV) (H : List AObj) (R : AEnd → List AObj → Prop) : Prop where
  out : ∀ (c : Cfg) (vs : List Value), c.H = H → Ok E.G c → RelL c args vs → UponC E.P (PostC E.G c R) ((callFunc g vs.toArray).run E.P c.w)

theorem CallsA.mono {E : Env} {g : FuncId} {args : List AV} {H : List AObj} {R R' : AEnd → List AObj → Prop} (h : CallsA E g args H R) (hr : ∀ x H, R x H → R' x H) : CallsA E g args H R' := by
  refine ⟨?_⟩
  intro c vs e1 e2 e3
  have h' := h.out c vs e1 e2 e3
  unfold UponC at *
  split at h'
  · exact h'.mono fun e w ⟨ι, H, x, a1, a2, a3, a4⟩ => ⟨ι, H, x, a1, a2, a3, hr x H a4⟩
  · obtain ⟨ι, H, x, a1, a2, a3, a4⟩ := h'
    exact ⟨ι, H, x, a1, a2, a3, hr x H a4⟩
  · exact h'.elim

def frame : Nat → List AV → Slots
  | _, [] => []
  | i, a :: as => (i, a) :: frame (i + 1) as

theorem look_frame : ∀ (as : List AV) (k i : Nat), look (frame k as) i = if k ≤ i then (as[i - k]?).getD .unk else .unk
  | [], k, i => by simp [frame, look]
  | a :: as, k, i => by
    unfold frame look
    rw [look_frame as (k + 1) i]
    cases hb : Nat.beq k i with
    | true => have := Nat.eq_of_beq_eq_true hb; subst this; simp
    | false =>
      have hne : k ≠ i := fun e => by subst e; simp at hb
      simp only [cond_false]
      by_cases hk : k ≤ i
      · rw [if_pos hk, if_pos (by omega), show i - k = (i - (k + 1)) + 1 from by omega, List.getElem?_cons_succ]
      · rw [if_neg hk, if_neg (by omega)]

/-- A result's slot; a result that lies in a box of the activation's own (L: what it has laid, from id n0 on). -/
def resA (L : List AObj) (T : List (Nat × TI)) (t : Slots) : ResultVar → Option AV
  | .tmp i => some (look t i)
  | .cell a ty => match look t a, lookT T ty with
    | .ptr _ j 0, some i => match L[j]? with
      | some (.cells cs) => bif i.d.agg then (bif Nat.beq cs.length i.sz then some (.agg cs) else none) else cs[0]?
      | _ => none
    | _, _ => none

def resN (n0 : Nat) (t : Slots) : List ResultVar → List Nat
  | [] => []
  | .tmp _ :: rs => n0 :: resN n0 t rs
  | .cell a _ :: rs => (match look t a with | .ptr n _ _ => n | _ => n0) :: resN n0 t rs

def resL (L : List AObj) (T : List (Nat × TI)) (t : Slots) : List ResultVar → Option (List AV)
  | [] => some []
  | r :: rs => match resA L T t r, resL L T t rs with
    | some a, some as => some (a :: as)
    | _, _ => none

def resV : List AV → AV
  | [a] => a
  | as => .tup as

mutual
/-- The value, its tags forgotten. -/
def forget : AV → AV
  | .sl _ z xs => .sl .no z xs
  | .agg cs => .agg (forgetL cs)
  | .tup cs => .tup (forgetL cs)
  | a => a
def forgetL : List AV → List AV
  | [] => []
  | a :: as => forget a :: forgetL as
end

theorem forgetL_length : ∀ as, (forgetL as).length = as.length
  | [] => rfl
  | _ :: as => by simp [forgetL, forgetL_length as]
theorem forgetL_get : ∀ (as : List AV) (i : Nat), (forgetL as)[i]? = (as[i]?).map forget
  | [], i => by simp [forgetL]
  | a :: as, 0 => by simp [forgetL]
  | a :: as, i + 1 => by simp [forgetL, forgetL_get as i]

theorem RelV.forget {c : Cfg} {a : AV} {v : Value} (h : RelV c a v) : RelV c (forget a) v := by
  induction h with
  | sl vs hl hc hz ht hf hr ih => exact .sl vs hl hc hz trivial hf hr
  | agg ws hl hr ih =>
    refine .agg ws (by rw [forgetL_length]; exact hl) fun i a v h1 h2 => ?_
    rw [forgetL_get] at h1
    obtain ⟨a', h3, rfl⟩ := Option.map_eq_some_iff.1 h1
    exact ih i a' v h3 h2
  | tup ws hl hr ih =>
    refine .tup ws (by rw [forgetL_length]; exact hl) fun i a v h1 h2 => ?_
    rw [forgetL_get] at h1
    obtain ⟨a', h3, rfl⟩ := Option.map_eq_some_iff.1 h1
    exact ih i a' v h3 h2
  | int => exact .int
  | bool => exact .bool
  | str => exact .str
  | nilp => exact .nilp
  | ptr h => exact .ptr h
  | rp vs hs hf hr ih => exact .rp vs hs hf hr
  | os h hc => exact .os h hc
  | ov h hc hs => exact .ov h hc hs
  | func ws hl hr ih => exact .func ws hl hr
  | nilf => exact .nilf
  | iface h ih => exact .iface h
  | nili => exact .nili
  | map h => exact .map h
  | nilm => exact .nilm
  | yld h => exact .yld h
  | unk => exact .unk

end Go.Gp

/- A function's abstract contract out of its body's abstract wp. -/
namespace Go.Gp
open Go.RowKit
set_option linter.unusedVariables false

theorem run_callFunc_body {P : Program} {g : FuncId} {fn : Func} {code : Code} {vs : Array Value} {w : World} (hf : P.funcs[g]? = some fn) (hb : fn.body = some code) (hn : (fn.name == "runtime.NumGoroutine") = false) :
    (callFunc g vs).run P w = .ok (.enter g vs) w := by
  simp [callFunc, hf, hb, go_sem]
  intro h
  simp [h] at hn

/-- A block that nobody's word speaks of is turned. -/
def Cfg.putBlock (c : Cfg) (b : Nat) (o : Obj) : Cfg := { c with w := { c.w with heap := c.w.heap.setIfInBounds b o } }

theorem putBlock_get {c : Cfg} {b k : Nat} {o : Obj} (h : k ≠ b) : (c.putBlock b o).w.heap[k]? = c.w.heap[k]? := by
  show (c.w.heap.setIfInBounds b o)[k]? = _
  rw [Array.getElem?_setIfInBounds, if_neg (fun e => h e.symm)]

theorem cell?_ne {w : World} {p : Addr} {v : Value} {b : Nat} {ds : Option (List Deferred)} (h : w.cell? p = some v) (hb : w.heap[b]? = some (.deferred ds)) : p.block ≠ b := by
  intro e
  subst e
  unfold World.cell? at h
  rw [hb] at h
  simp at h

theorem Ext0.putBlock {c : Cfg} {b : Nat} {ds : Option (List Deferred)} (o : Obj) (hb : c.w.heap[b]? = some (.deferred ds)) : Ext0 c (c.putBlock b o) where
  fz := fun p v _ hf => by
    refine ⟨?_, hf.2⟩
    have := cell?_ne hf.1 hb
    have h1 := hf.1
    unfold World.cell? at h1 ⊢
    rw [putBlock_get this]
    exact h1
  bx := fun _ _ h => h
  tl := fun id n z h => .inr ⟨n, h, Nat.le_refl _, fun _ => ⟨rfl, fun b' arr e _ ha => ⟨arr, by rw [putBlock_get (fun e => by subst e; rw [hb] at ha; cases ha)]; exact ha, rfl⟩⟩⟩
  dd := fun _ h => h
  sz := fun _ _ _ _ ⟨arr, e, fr, h1, h2⟩ => ⟨arr, e, fr, by rw [putBlock_get (fun e => by subst e; rw [hb] at h1; cases h1)]; exact h1, h2⟩

theorem HR.putBlock {c : Cfg} {b : Nat} {ds : Option (List Deferred)} {o : Obj} (h : HR c) (hb : c.w.heap[b]? = some (.deferred ds))
    (hn : ∀ (id : Nat) o, c.H[id]? = some o → o.live = true → c.ι id ≠ some b) : HR (c.putBlock b o) where
  dom := h.dom
  ex := h.ex
  obj := fun id b' o' ho hi hl => by
    have hne : b' ≠ b := fun e => by subst e; exact hn id o' ho hl hi
    exact (h.obj id b' o' ho hi hl).mono (Ext0.putBlock o hb) (putBlock_get hne)
  inj := h.inj
  bound := fun id b' hi => by
    show b' < (c.w.heap.setIfInBounds b o).size
    rw [Array.size_setIfInBounds]
    exact h.bound id b' hi

theorem gBlk.putBlock {c : Cfg} {b g n : Nat} {ds : Option (List Deferred)} {o : Obj} (h : gBlk c g n) (hb : c.w.heap[b]? = some (.deferred ds)) : gBlk (c.putBlock b o) g n := by
  obtain ⟨arr, t, fr, h1, h2, h3⟩ := h
  have hne : g ≠ b := fun e => by subst e; rw [hb] at h1; cases h1
  exact ⟨arr, t, fr, (putBlock_get hne).trans h1, h2, h3⟩
theorem Ext.putBlock {c0 c : Cfg} {b : Nat} {ds : Option (List Deferred)} {o : Obj} (h : Ext c0 c) (hb : c.w.heap[b]? = some (.deferred ds)) (h0 : c0.w.heap.size ≤ b) : Ext c0 (c.putBlock b o) where
  fz := fun p v _ hf => (Ext0.putBlock o hb).fz' (h.toExt0.fz' hf)
  bx := h.bx
  tl := fun id n z hn => by
    rcases h.tl id n z hn with hd | ⟨n', hn', hle, hk⟩
    · exact .inl hd
    · refine .inr ⟨n', hn', hle, fun e => ?_⟩
      obtain ⟨i1, b1⟩ := hk e
      refine ⟨i1, fun b' arr e' hi ha => ?_⟩
      obtain ⟨arr', h1, h2⟩ := b1 b' arr e' hi ha
      exact ⟨arr', by rw [putBlock_get (fun e => by subst e; rw [hb] at h1; cases h1)]; exact h1, h2⟩
  dd := h.dd
  sz := fun id b' n hq hk => by
    obtain ⟨arr', e', fr', g1, g2⟩ := h.sz id b' n hq hk
    exact ⟨arr', e', fr', by rw [putBlock_get (fun e => by subst e; rw [hb] at g1; cases g1)]; exact g1, g2⟩
  size := by show _ ≤ (c.w.heap.setIfInBounds b o).size; rw [Array.size_setIfInBounds]; exact h.size
  os := h.os
  tape := h.tape
  output := h.output
  hlen := h.hlen
  outer := fun k hk hn => by rw [putBlock_get (by omega)]; exact h.outer k hk hn
  nw := h.nw

theorem run_takeDeferred' {P : Program} {w : World} {b : Nat} (h : w.heap[b]? = some (.deferred (some []))) :
    (Instr.takeDeferred b).run P w = .ok [] { w with heap := w.heap.setIfInBounds b (.deferred none) } := by
  simp [Instr.takeDeferred, getObj, setObj, Sem.run_bind, Sem.run, h, Result.andThen]

/-- Off the body's end: the marks are taken, the results read. -/
theorem leaves_marks {E : Env} {fn : Func} {tmps : Array Value} {R : Ending → World → Prop} {c0 : Cfg} {Q : Cfg → Prop}
    (hQ : ∀ c b, Q c → c.w.heap[b]? = some (.deferred (some [])) → c0.w.heap.size ≤ b → (∀ (id : Nat) o, c.H[id]? = some o → o.live = true → c.ι id ≠ some b) → Q (c.putBlock b (.deferred none)))
    (u : FrameMode) (hu : u ≠ .run) (hfin : ∀ c, Q c → LeavesIn Fence.wide 0 E.P fn tmps R [] u c.w) :
    ∀ (D : List Nat) (c : Cfg), D.Nodup → (∀ b ∈ D, c.w.heap[b]? = some (.deferred (some [])) ∧ c0.w.heap.size ≤ b ∧ ∀ (id : Nat) o, c.H[id]? = some o → o.live = true → c.ι id ≠ some b) → Q c →
      LeavesInM Fence.wide 0 E.P fn tmps R (marksOf D) u c.w
  | [], c, _, _, hq => hfin c hq
  | b :: D, c, hn, hD, hq => by
    obtain ⟨h1, h2, h3⟩ := hD b List.mem_cons_self
    refine ⟨hu, .inl ⟨b, _, rfl, run_takeDeferred' h1, ?_⟩⟩
    refine leaves_marks hQ u hu hfin D (c.putBlock b (.deferred none)) (List.nodup_cons.1 hn).2 (fun b' hb' => ?_) (hQ c b hq h1 h2 h3)
    obtain ⟨h4, h5, h6⟩ := hD b' (List.mem_cons_of_mem _ hb')
    have hne : b' ≠ b := fun e => by subst e; exact (List.nodup_cons.1 hn).1 hb'
    exact ⟨by rw [putBlock_get hne]; exact h4, h5, h6⟩

/-! ### Results read off slots and boxes -/
theorem underlying_agg {E : Env} {t : Nat} {i : TI} (h : lookT E.T t = some i) (w : World) : (isAgg t).run E.P w = .ok i.d.agg w := by
  obtain ⟨d, h1, h2⟩ := (Env.ti h).u
  cases hd : i.d <;> rw [hd] at h2 <;> simp only [TD.ok] at h2
  case struct fs =>
    obtain ⟨gs, rfl, _⟩ := h2
    simp [isAgg, underlying, program, Sem.run_bind, Sem.run, h1, Result.andThen, TD.agg]
  case iface =>
    obtain ⟨gs, rfl⟩ := h2
    simp [isAgg, underlying, program, Sem.run_bind, Sem.run, h1, Result.andThen, TD.agg]
  case fn =>
    obtain ⟨_, _, _, rfl⟩ := h2
    simp [isAgg, underlying, program, Sem.run_bind, Sem.run, h1, Result.andThen, TD.agg]
  all_goals
    subst h2
    simp [isAgg, underlying, program, Sem.run_bind, Sem.run, h1, Result.andThen, TD.agg]

theorem run_sizeOf {E : Env} {t : Nat} {i : TI} (h : lookT E.T t = some i) (w : World) : (sizeOf t).run E.P w = .ok i.sz w := by
  have h1 := (Env.ti h).info
  obtain ⟨x, hx, he⟩ := Option.map_eq_some_iff.1 h1
  simp only [Prod.mk.injEq] at he
  obtain ⟨_, he, _⟩ := he
  simp [sizeOf, typeInfo, program, Sem.run_bind, Sem.run, hx, he, Result.andThen]

theorem run_zeroValue {E : Env} {t : Nat} {i : TI} (h : lookT E.T t = some i) (w : World) : (zeroValue t).run E.P w = .ok i.zero w := by
  have h1 := (Env.ti h).info
  obtain ⟨x, hx, he⟩ := Option.map_eq_some_iff.1 h1
  simp only [Prod.mk.injEq] at he
  obtain ⟨he, _, _⟩ := he
  simp [zeroValue, typeInfo, program, Sem.run_bind, Sem.run, hx, he, Result.andThen]

/-- The cells from an address on. -/
def CellsAt (w : World) (p : Addr) (vs : List Value) : Prop := ∀ (i : Nat) v, vs[i]? = some v → w.cell? (p.add i) = some v

theorem get_lt' {H : List AObj} {id : Nat} {o : AObj} (h : H[id]? = some o) : id < H.length := (List.getElem?_eq_some_iff.1 h).1

theorem run_loadCellsFrom {P : Program} {w : World} {p : Addr} : ∀ (n i : Nat) (acc : Array Value) (vs : List Value), vs.length = n → (∀ (j : Nat) v, vs[j]? = some v → w.cell? (p.add (i + j)) = some v) →
    (loadCellsFrom p i n acc).run P w = .ok (acc ++ vs.toArray) w
  | 0, i, acc, vs, hl, h => by
    have : vs = [] := List.length_eq_zero_iff.1 hl
    subst this
    simp [loadCellsFrom]
  | n + 1, i, acc, vs, hl, h => by
    cases vs with
    | nil => simp at hl
    | cons v vs =>
      have h0 := h 0 v rfl
      simp only [Nat.add_zero] at h0
      have ih := run_loadCellsFrom (P := P) (w := w) (p := p) n (i + 1) (acc.push v) vs (by simpa using hl) (fun j u hu => by
        have := h (j + 1) u (by simpa using hu)
        rw [show i + (j + 1) = i + 1 + j from by omega] at this
        exact this)
      unfold loadCellsFrom
      simp only [load, Sem.run_bind, Sem.run, h0, Result.andThen]
      rw [ih]
      simp

theorem run_loadCells {P : Program} {w : World} {p : Addr} {vs : List Value} (h : CellsAt w p vs) : (loadCells p vs.length).run P w = .ok vs.toArray w := by
  have := run_loadCellsFrom (P := P) (w := w) (p := p) vs.length 0 #[] vs rfl (fun j v hv => by rw [Nat.zero_add]; exact h j v hv)
  simpa [loadCells] using this

/-- What a variable holds, as an abstract value. -/
def varA (i : TI) (cs : List AV) : Option AV := bif i.d.agg then (bif Nat.beq cs.length i.sz then some (.agg cs) else some (.agg (cs.take i.sz))) else cs[0]?

theorem varA_eq (i : TI) (cs : List AV) : varA i cs = if i.d.agg then some (.agg (cs.take i.sz)) else cs[0]? := by
  unfold varA
  cases i.d.agg with
  | false => rfl
  | true =>
    simp only [cond_true, if_true]
    cases h : Nat.beq cs.length i.sz with
    | false => rfl
    | true => simp only [cond_true]; rw [List.take_of_length_le (Nat.le_of_eq (Nat.eq_of_beq_eq_true h))]

theorem run_loadVar {E : Env} {c : Cfg} {t : Nat} {i : TI} (h : lookT E.T t = some i) {p : Addr} {as : List AV} {vs : List Value} (hr : RelL c as vs) (hc : CellsAt c.w p vs) (hl : i.sz ≤ as.length)
    {a : AV} (ha : varA i as = some a) : ∃ v, (loadVar t p).run E.P c.w = .ok v c.w ∧ RelV c a v := by
  rw [varA_eq] at ha
  unfold loadVar
  simp only [Sem.run_bind, underlying_agg h, Result.andThen]
  cases hg : i.d.agg with
  | true =>
    rw [hg] at ha
    simp only [if_true, Option.some.injEq] at ha
    subst ha
    have hlen : (vs.take i.sz).length = i.sz := by rw [List.length_take]; have := hr.1; omega
    have hc' : CellsAt c.w p (vs.take i.sz) := fun j v hv => hc j v (by rw [List.getElem?_take] at hv; split at hv <;> simp_all)
    have h2 := run_loadCells (P := E.P) hc'
    rw [hlen] at h2
    simp only [if_true, Sem.run_bind, run_sizeOf h, h2, Result.andThen, Sem.run_pure]
    refine ⟨_, rfl, ?_⟩
    have h3 := hr.take i.sz
    exact .agg _ h3.1 h3.2
  | false =>
    rw [hg] at ha
    simp only [Bool.false_eq_true, if_false] at ha
    obtain ⟨v, hv, hrv⟩ := hr.get ha
    have := hc 0 v hv
    simp only [Addr.add, if_true] at this
    simp only [Bool.false_eq_true, if_false, load, Sem.run, this]
    exact ⟨v, rfl, hrv⟩

theorem box_cells {c : Cfg} (h : HR c) {id b : Nat} {cs : List AV} (hH : c.H[id]? = some (.cells cs)) (hi : c.ι id = some b) :
    ∃ arr e vs, c.w.heap[b]? = some (.cells arr e (0, 0)) ∧ vs.length = cs.length ∧ RelL c cs vs ∧ (∀ (i : Nat) v, vs[i]? = some v → arr[i]? = some v) ∧ cs.length ≤ arr.size := by
  obtain ⟨arr, e, h1, h2, h3⟩ := h.obj id b _ hH hi rfl
  refine ⟨arr, e, arr.toList.take cs.length, h1, by simp; omega, ⟨by simp; omega, fun i a v ha hv => ?_⟩, fun i v hv => ?_, h2⟩
  · obtain ⟨u, hu, hr⟩ := h3 i a ha
    rw [List.getElem?_take] at hv
    split at hv
    · rw [Array.getElem?_toList, hu] at hv
      injection hv with hv
      subst hv
      exact hr
    · simp at hv
  · rw [List.getElem?_take] at hv
    split at hv
    · rwa [Array.getElem?_toList] at hv
    · simp at hv

theorem cell?_of {w : World} {b off : Nat} {arr : Array Value} {e : TypeId} {fr : Nat × Nat} {v : Value} (hb : w.heap[b]? = some (.cells arr e fr)) (hv : arr[off]? = some v) : w.cell? ⟨b, off, none⟩ = some v := by
  unfold World.cell?
  simp [hb, hv]

theorem box_at {c : Cfg} (h : HR c) {id b off : Nat} {cs : List AV} (hH : c.H[id]? = some (.cells cs)) (hi : c.ι id = some b) :
    ∃ vs, RelL c (cs.drop off) vs ∧ CellsAt c.w ⟨b, off, none⟩ vs := by
  obtain ⟨arr, e, vs, h1, h2, h3, h4, h5⟩ := box_cells h hH hi
  refine ⟨vs.drop off, h3.drop off, fun i v hv => ?_⟩
  rw [List.getElem?_drop] at hv
  have := cell?_of h1 (h4 _ v hv)
  unfold Addr.add
  split
  · rename_i h0; subst h0; simpa using this
  · simpa using this

def resM (tmps : Array Value) : ResultVar → Sem Value
  | .tmp t => pure (tmps.getD t undef)
  | .cell a t => do loadVar t (← asAddr (tmps.getD a undef))

theorem results_eq (fn : Func) (tmps : Array Value) : results fn tmps = (do let vs ← fn.results.mapM (resM tmps); pure (if h : vs.size = 1 then vs[0] else .tuple vs)) := by
  unfold results
  congr 1

theorem app_get {H L : List AObj} {n0 j : Nat} {o : AObj} (hn : H.length = n0) (h : L[j]? = some o) : (H ++ L)[n0 + j]? = some o := by
  subst hn
  rw [List.getElem?_append_right (by omega), Nat.add_sub_cancel_left]
  exact h

theorem resA_rel {E : Env} {c : Cfg} {n n0 : Nat} {t : Slots} {a : Act} {H L : List AObj} (hH : c.H = H ++ L) (hn : H.length = n0) (ho : HR c) (s : SR c n t a) {r : ResultVar} {x : AV} (hx : resA L E.T t r = some x)
    (hb : ∀ p ty, r = .cell p ty → (match look t p with | .ptr m _ _ => m | _ => n0) = n0) :
    ∃ v, (resM a.tmps r).run E.P c.w = .ok v c.w ∧ RelV c x v := by
  cases r with
  | tmp i =>
    simp only [resA, Option.some.injEq] at hx
    subst hx
    exact ⟨_, rfl, s.rel i⟩
  | cell p ty =>
    have hb := hb p ty rfl
    simp only [resA] at hx
    have hp := s.rel p
    split at hx
    · rename_i m j i h1 h2
      rw [h1] at hp hb
      simp only at hb
      subst hb
      split at hx
      · rename_i cs hcs0
        have hcs : c.H[m + j]? = some (.cells cs) := by rw [hH]; exact app_get hn hcs0
        generalize hv0 : a.tmps.getD p undef = v0 at hp
        cases hp with
        | ptr hb =>
          rename_i b
          obtain ⟨o, ho1, ho2, ho3⟩ := hb
          obtain ⟨vs, hr, hc⟩ := box_at (off := 0) ho hcs ho3
          simp only [List.drop_zero] at hr
          have hva : varA i cs = some x ∧ i.sz ≤ cs.length ∨ i.d.agg = false := by
            rw [varA_eq]
            cases hg : i.d.agg with
            | true =>
              rw [hg] at hx
              simp only [cond_true] at hx
              cases hl : Nat.beq cs.length i.sz with
              | false => rw [hl] at hx; simp at hx
              | true =>
                have hl := Nat.eq_of_beq_eq_true hl
                rw [hl, Nat.beq_refl] at hx
                refine .inl ⟨?_, by omega⟩
                simp only [if_true]
                rw [List.take_of_length_le (by omega)]
                exact hx
            | false => exact .inr rfl
          rcases hva with ⟨hva, hl⟩ | hg
          · obtain ⟨v, hv, hrv⟩ := run_loadVar h2 hr hc hl hva
            refine ⟨v, ?_, hrv⟩
            simp only [resM, hv0, asAddr, Sem.run_bind, Sem.run_pure, Result.andThen]
            exact hv
          · rw [hg] at hx
            simp only [cond_false] at hx
            obtain ⟨v, hv, hrv⟩ := hr.get hx
            have h0 := hc 0 v hv
            simp only [Addr.add, if_true] at h0
            refine ⟨v, ?_, hrv⟩
            simp only [resM, hv0, asAddr, Sem.run_bind, Sem.run_pure, Result.andThen, loadVar, underlying_agg h2, hg, Bool.false_eq_true, if_false, load, Sem.run, h0]
      · simp at hx
    · simp at hx

theorem resL_rel {E : Env} {c : Cfg} {n n0 : Nat} {t : Slots} {a : Act} {H L : List AObj} (hH : c.H = H ++ L) (hn : H.length = n0) (ho : HR c) (s : SR c n t a) : ∀ {rs : List ResultVar} {as : List AV}, resL L E.T t rs = some as → resN n0 t rs = rs.map (fun _ => n0) →
    ∃ vs, (rs.mapM (resM a.tmps)).run E.P c.w = .ok vs c.w ∧ RelL c as vs
  | [], as, h, _ => by
    simp only [resL, Option.some.injEq] at h
    subst h
    exact ⟨[], by simp, RelL.nil c⟩
  | r :: rs, as, h, hb => by
    simp only [resL] at h
    split at h
    · rename_i x xs h1 h2
      injection h with h
      subst h
      have hb1 : resN n0 t rs = rs.map (fun _ => n0) := by
        cases r <;> simp only [resN, List.map_cons, List.cons.injEq] at hb <;> exact hb.2
      obtain ⟨v, hv, hr⟩ := resA_rel (E := E) hH hn ho s h1 (fun p ty e => by
        subst e
        simp only [resN, List.map_cons, List.cons.injEq] at hb
        exact hb.1)
      obtain ⟨vs, hvs, hrs⟩ := resL_rel hH hn ho s h2 hb1
      refine ⟨v :: vs, ?_, RelL.cons hr hrs⟩
      simp only [List.mapM_cons, Sem.run_bind, hv, hvs, Result.andThen, Sem.run_pure]
    · simp at h

theorem run_results {E : Env} {c : Cfg} {n n0 : Nat} {t : Slots} {a : Act} {H L : List AObj} (hH : c.H = H ++ L) (hn : H.length = n0) (ho : HR c) (s : SR c n t a) {fn : Func} {rs : List ResultVar} (hrs : fn.results = rs.toArray) {as : List AV} (h : resL L E.T t rs = some as)
    (hb : resN n0 t rs = rs.map (fun _ => n0)) :
    ∃ v, (results fn a.tmps).run E.P c.w = .ok v c.w ∧ RelV c (resV as) v := by
  obtain ⟨vs, hvs, hr⟩ := resL_rel hH hn ho s h hb
  refine ⟨if h : vs.length = 1 then vs[0] else .tuple vs.toArray, ?_, ?_⟩
  · rw [results_eq, hrs, List.mapM_toArray]
    simp only [Sem.run_bind, Sem.run_map, hvs, Result.andThen, Sem.run_pure]
    congr 1
  · match as, vs, hr with
    | [], [], _ => exact .tup [] rfl (fun i a v h => by simp at h)
    | [x], [v], hr => exact hr.head
    | x :: y :: as, v :: u :: vs, hr =>
      have hne : ¬ (v :: u :: vs).length = 1 := by simp
      rw [dif_neg hne]
      exact .tup _ hr.1 hr.2
    | [], _ :: _, hr => simp [RelL] at hr
    | [_], [], hr => simp [RelL] at hr
    | [_], _ :: _ :: _, hr => simp [RelL] at hr
    | _ :: _ :: _, [], hr => simp [RelL] at hr
    | _ :: _ :: _, [_], hr => simp [RelL] at hr

theorem RelV.bd {c : Cfg} {a : AV} {v : Value} (h : RelV c a v) : Bd c.H.length a := by
  have hb : ∀ {i b}, boxAt c i b → i < c.H.length := fun ⟨o, h1, _⟩ => get_lt' h1
  induction h with
  | int => exact .int
  | bool => exact .bool
  | str => exact .str
  | nilp => exact .nilp
  | ptr h => exact .ptr (hb h)
  | rp vs hs hf _ ih => exact .rp (fun e he => by obtain ⟨i, hi⟩ := List.getElem?_of_mem he; exact ih i e hi)
  | sl vs hl hc hz ht hf _ ih =>
    refine .sl (fun m j e => ?_) (fun x hx e he => ?_) (fun m j e => ?_)
    · subst e
      rcases ht with hd | ⟨n, hn, _⟩
      · exact get_lt' hd.choose_spec.1
      · exact get_lt' hn
    · obtain ⟨i, hi⟩ := List.getElem?_of_mem hx
      obtain ⟨j, hj⟩ := List.getElem?_of_mem he
      exact ih i j x e hi hj
    · subst e
      rcases ht with hd | ⟨n, hn, _⟩
      · exact get_lt' hd.choose_spec.1
      · exact get_lt' hn
  | os h hc => exact .os (hb h)
  | ov h hc _ => exact .ov (hb h)
  | func ws hl _ ih =>
    refine .func (fun e he => ?_)
    obtain ⟨i, hi⟩ := List.getElem?_of_mem he
    have hlt := (List.getElem?_eq_some_iff.1 hi).1
    exact ih i e _ hi (List.getElem?_eq_getElem (by omega))
  | nilf => exact .nilf
  | iface _ ih => exact .iface ih
  | nili => exact .nili
  | map h => exact .map (hb h)
  | nilm => exact .nilm
  | agg ws hl _ ih =>
    refine .agg (fun e he => ?_)
    obtain ⟨i, hi⟩ := List.getElem?_of_mem he
    have hlt := (List.getElem?_eq_some_iff.1 hi).1
    exact ih i e _ hi (List.getElem?_eq_getElem (by omega))
  | tup ws hl _ ih =>
    refine .tup (fun e he => ?_)
    obtain ⟨i, hi⟩ := List.getElem?_of_mem he
    have hlt := (List.getElem?_eq_some_iff.1 hi).1
    exact ih i e _ hi (List.getElem?_eq_getElem (by omega))
  | yld h => exact .yld (hb h)
  | unk => exact .unk

theorem HR.obd {c : Cfg} (h : HR c) {id : Nat} {o : AObj} (ho : c.H[id]? = some o) : OBd c.H.length o := by
  refine ⟨fun cs e a ha => ?_, fun es k e x hx => ?_, fun r t e i => ?_, fun m j a s q e => ?_⟩
  · subst e
    obtain ⟨b, hb⟩ := h.ex id _ ho rfl rfl
    obtain ⟨arr, ee, h1, h2, h3⟩ := h.obj id b _ ho hb rfl
    obtain ⟨i, hi⟩ := List.getElem?_of_mem ha
    obtain ⟨v, _, hr⟩ := h3 i a hi
    exact hr.bd
  · subst e
    obtain ⟨b, hb⟩ := h.ex id _ ho rfl rfl
    obtain ⟨en, h1, h2, h3⟩ := h.obj id b _ ho hb rfl
    obtain ⟨i, hi⟩ := List.getElem?_of_mem hx
    have hlt : i < es.length := (List.getElem?_eq_some_iff.1 hi).1
    have := h3 i x.1 x.2.1 x.2.2 _ hi (Array.getElem?_eq_getElem (by omega))
    exact ⟨this.1.bd, this.2.1.bd⟩
  · subst e
    obtain ⟨b, hb⟩ := h.ex id _ ho rfl rfl
    exact ((h.obj id b _ ho hb rfl).2 i).bd
  · subst e
    obtain ⟨b, hb⟩ := h.ex id _ ho rfl rfl
    obtain ⟨mb, _, o, h1, _⟩ := h.obj id b _ ho hb rfl
    exact get_lt' h1

/-- What was there before is as it was, or speaks of nothing newer. -/
def TrOk (H H1 : List AObj) : Prop := ∀ (i : Nat) o, H1[i]? = some o → H[i]? = some o ∨ OBd H.length o

theorem TrOk.refl (H : List AObj) : TrOk H H := fun _ _ h => .inl h

/-- The end of a body: all stays in sight; or what the function has laid is left out of sight. -/
inductive RetR (H : List AObj) (R : AEnd → List AObj → Prop) (e : AEnd) (v : AV) (H' : List AObj) : Prop
  | all (h : R e H')
  | cut (H1 L : List AObj) (he : H' = H1 ++ L) (hl : H1.length = H.length) (ht : TrOk H H1) (hb : Bd H.length v) (h : R e H1)

/-- What is asked at the end of a body: the results read. -/
def retK (E : Env) (rs : List ResultVar) (H : List AObj) (R : AEnd → List AObj → Prop) : Kont := fun x t H' =>
  match x with
  | .normal | .ret => ∃ H1 L as v, H' = H1 ++ L ∧ H1.length = H.length ∧ resL L E.T t rs = some as ∧ resN H.length t rs = rs.map (fun _ => H.length) ∧ (∀ c x, RelV c (resV as) x → RelV c v x) ∧ RetR H R (.ret v) v H'
  | .panic v => RetR H R (.panic (forget v)) (forget v) H'
  | .exit _ => False

theorem RetR.use {E : Env} {c c' : Cfg} {R : AEnd → List AObj → Prop} {e : AEnd} {v : AV} {en : Ending} (hx : Ext c c') (h0 : Ok E.G c) (h : Ok E.G c')
    (hr : RetR c.H R e v c'.H) (hen : ∀ c'', (c'' = c' ∨ (c'' = c'.trunc c.H.length ∧ Bd c.H.length v)) → EndR c'' e en) : PostC E.G c R en c'.w := by
  cases hr with
  | all hR => exact ⟨c'.ι, c'.H, e, hx, h, hen c' (.inl rfl), hR⟩
  | cut H1 L he hl ht hb hR =>
    have hE := hx.trunc (n := c.H.length) rfl
    have hbd : HBd c.H.length c'.H := by
      intro o ho
      obtain ⟨i, hi⟩ := List.getElem?_of_mem ho
      rw [he, ← hl, List.take_left] at hi
      rcases ht i o hi with h1 | h1
      · exact h0.hr.obd h1
      · exact h1
    have hok := h0.step hE (h.hr.trunc hbd)
    refine ⟨(c'.trunc c.H.length).ι, (c'.trunc c.H.length).H, e, hE, hok, hen _ (.inr ⟨rfl, hb⟩), ?_⟩
    show R e (c'.H.take c.H.length)
    rw [he, ← hl, List.take_left]
    exact hR

/-- A contract out of the body's walk. -/
theorem CallsA.enter {E : Env} {g : FuncId} {args : List AV} {H : List AObj} {R : AEnd → List AObj → Prop} {fn : Func} {code : Code} {rs : List ResultVar}
    (hf : E.P.funcs[g]? = some fn) (hb : fn.body = some code) (hn : (fn.name == "runtime.NumGoroutine") = false) (hrs : fn.results = rs.toArray) (nt : Nat) (hnt : fn.ntmps = nt) (hargs : args.length ≤ nt)
    (h : WpA E none nt code (retK E rs H R) (frame 0 args) (H ++ [])) : CallsA E g args H R := by
  refine ⟨?_⟩
  intro c vs hH ho hr
  subst hnt
  rw [run_callFunc_body hf hb hn]
  show Calls E.P g vs.toArray c.w (PostC E.G c R)
  rw [← Fc_calls (ro := none) (n := 0)]
  have hl : args.length = vs.length := hr.1
  refine callsIn_of_wp_marks hf hb trivial (wpIn_mono (h.out (c, []) c c { tmps := vs.toArray ++ Array.replicate (fn.ntmps - vs.toArray.size) undef, defers := [] } (Ext.refl c) (by rw [hH, List.append_nil]) ho ?_ ⟨[], rfl, fun _ => rfl, List.nodup_nil, Nat.le_refl _, by simp⟩) ?_) rfl
  · refine ⟨by simp; omega, fun i => ?_⟩
    rw [look_frame, if_pos (Nat.zero_le _), Nat.sub_zero]
    by_cases hi : i < args.length
    · have h1 : args[i]? = some args[i] := List.getElem?_eq_getElem hi
      have h2 : vs[i]? = some (vs[i]'(by omega)) := List.getElem?_eq_getElem (by omega)
      have h3 := hr.2 i _ _ h1 h2
      rw [h1]
      simp only [Option.getD_some]
      rw [Array.getD_eq_getD_getElem?, Array.getElem?_append_left (by simp; omega)]
      simp only [List.getElem?_toArray, h2, Option.getD_some]
      exact h3
    · rw [List.getElem?_eq_none (by omega)]
      exact .unk
  · rintro e a w ⟨ι, H', t', x, h1, h2, h3, h4, h5, h6⟩
    obtain ⟨D, hD, _, hnd, _, hDb⟩ := h4
    simp only [List.append_nil] at hD
    -- what stays while the marks are taken
    let Q : Cfg → Prop := fun c' => Ext c c' ∧ Ok E.G c' ∧ SR c' fn.ntmps t' a ∧ c'.H = H' ∧ ∀ v u, RelV ⟨ι, H', w⟩ v u → RelV c' v u
    have hQ0 : Q ⟨ι, H', w⟩ := ⟨h1, h2, h3, rfl, fun _ _ h => h⟩
    have hQ : ∀ c' b, Q c' → c'.w.heap[b]? = some (.deferred (some [])) → c.w.heap.size ≤ b → (∀ (id : Nat) o, c'.H[id]? = some o → o.live = true → c'.ι id ≠ some b) → Q (c'.putBlock b (.deferred none)) := by
      rintro c' b ⟨q1, q2, q3, q4, q5⟩ hb hle hlive
      have hm := Ext0.putBlock (c := c') (.deferred none) hb
      exact ⟨q1.putBlock hb hle, ⟨q2.hr.putBlock hb hlive, fun g cs hg => (q2.glob g cs hg).mono hm, fun g cs hg h2 => (q2.gblk g cs hg h2).putBlock hb⟩, ⟨q3.size, fun i => (q3.rel i).mono hm⟩, q4, fun v u hv => (q5 v u hv).mono hm⟩
    have hret : ∀ c', Q c' → (x = .normal ∨ x = .ret) → LeavesIn Fence.wide 0 E.P fn a.tmps (PostC E.G c R) [] .returning c'.w := by
      rintro c' ⟨q1, q2, q3, q4, _⟩ hx
      have h6' : ∃ H1 L as r, H' = H1 ++ L ∧ H1.length = H.length ∧ resL L E.T t' rs = some as ∧ resN H.length t' rs = rs.map (fun _ => H.length) ∧ (∀ c x, RelV c (resV as) x → RelV c r x) ∧ RetR H R (.ret r) r H' := by
        rcases hx with rfl | rfl <;> exact h6
      obtain ⟨H1, L, as, r, hHL, hlen, has, hbs, hfr, hR⟩ := h6'
      obtain ⟨v, hv, hrv⟩ := run_results (E := E) (H := H1) (L := L) (n0 := H.length) (by rw [q4]; exact hHL) hlen q2.hr q3 hrs has hbs
      refine ⟨v, hv, ?_⟩
      subst hH
      rw [← q4] at hR
      refine RetR.use q1 ho q2 hR ?_
      have hrv' : RelV c' r v := hfr _ _ hrv
      rintro c'' (rfl | ⟨rfl, hbd⟩)
      · exact hrv'
      · exact hrv'.trunc hbd
    cases e with
    | normal =>
      cases x <;> try exact h5.elim
      show LeavesInM _ _ _ _ _ _ _ _ _
      rw [hD]
      exact leaves_marks hQ .returning (by simp) (fun c' hc' => hret c' hc' (.inl rfl)) D ⟨ι, H', w⟩ hnd hDb hQ0
    | ret =>
      cases x <;> try exact h5.elim
      show LeavesInM _ _ _ _ _ _ _ _ _
      rw [hD]
      exact leaves_marks hQ .returning (by simp) (fun c' hc' => hret c' hc' (.inr rfl)) D ⟨ι, H', w⟩ hnd hDb hQ0
    | exit id => cases x <;> first | exact h5.elim | exact h6.elim
    | goto l => cases x <;> exact h5.elim
    | outgrown => cases x <;> exact h5.elim
    | panic chain =>
      cases x <;> try exact h5.elim
      rename_i pv
      obtain ⟨v, rfl, hrv⟩ := h5
      show LeavesInM _ _ _ _ _ _ _ _ _
      rw [hD]
      refine leaves_marks hQ _ (by simp) ?_ D ⟨ι, H', w⟩ hnd hDb hQ0
      rintro c' ⟨q1, q2, q3, q4, q5⟩
      show PostC E.G c R (.panicked _) c'.w
      subst hH
      have hR : RetR c.H R (.panic (forget pv)) (forget pv) c'.H := by rw [q4]; exact h6
      refine RetR.use q1 ho q2 hR ?_
      rintro c'' (rfl | ⟨rfl, hbd⟩)
      · exact ⟨v, rfl, (q5 _ _ hrv).forget⟩
      · exact ⟨v, rfl, ((q5 _ _ hrv).forget).trunc hbd⟩

/-- The usual end: the heap is as it was, the results are r. -/
theorem retK.ok' {E : Env} {rs : List ResultVar} {H L : List AObj} {R : AEnd → List AObj → Prop} {t : Slots} {x : AX} {as : List AV} (hx : x = .normal ∨ x = .ret) (h : resL L E.T t rs = some as)
    (hn : resN H.length t rs = rs.map (fun _ => H.length)) (hb : Bd H.length (forget (resV as))) (hR : R (.ret (forget (resV as))) H) : retK E rs H R x t (H ++ L) := by
  have h' : ∃ H1 L' as v, H ++ L = H1 ++ L' ∧ H1.length = H.length ∧ resL L' E.T t rs = some as ∧ resN H.length t rs = rs.map (fun _ => H.length) ∧ (∀ c x, RelV c (resV as) x → RelV c v x) ∧ RetR H R (.ret v) v (H ++ L) :=
    ⟨H, L, as, _, rfl, rfl, h, hn, fun _ _ h => h.forget, .cut H L rfl rfl (TrOk.refl H) hb hR⟩
  rcases hx with rfl | rfl <;> exact h'

/-- An end with less said of the results, in a heap of the same length. -/
theorem retK.sub {E : Env} {rs : List ResultVar} {H H1 L : List AObj} {R : AEnd → List AObj → Prop} {t : Slots} {x : AX} {as : List AV} {r : AV} (hx : x = .normal ∨ x = .ret) (hl : H1.length = H.length) (ht : TrOk H H1) (h : resL L E.T t rs = some as)
    (hn : resN H.length t rs = rs.map (fun _ => H.length)) (hs : ∀ c x, RelV c (resV as) x → RelV c r x) (hb : Bd H.length r) (hR : R (.ret r) H1) : retK E rs H R x t (H1 ++ L) := by
  have h' : ∃ H2 L' as v, H1 ++ L = H2 ++ L' ∧ H2.length = H.length ∧ resL L' E.T t rs = some as ∧ resN H.length t rs = rs.map (fun _ => H.length) ∧ (∀ c x, RelV c (resV as) x → RelV c v x) ∧ RetR H R (.ret v) v (H1 ++ L) :=
    ⟨H1, L, as, r, rfl, hl, h, hn, hs, .cut H1 L rfl hl ht hb hR⟩
  rcases hx with rfl | rfl <;> exact h'

/-- The function answers r and leaves the heap as it was. -/
abbrev Is (H : List AObj) (r : AV) : AEnd → List AObj → Prop := fun x H' => H' = H ∧ x = .ret r

theorem retK.ok {E : Env} {rs : List ResultVar} {H L : List AObj} {r : AV} {t : Slots} {as : List AV} (h : resL L E.T t rs = some as)
    (hn : resN H.length t rs = rs.map (fun _ => H.length)) (hr : forget (resV as) = r) (hb : Bd H.length r) : retK E rs H (Is H r) .ret t (H ++ L) :=
  .ok' (.inr rfl) h hn (by rw [hr]; exact hb) ⟨rfl, by rw [hr]⟩

end Go.Gp
