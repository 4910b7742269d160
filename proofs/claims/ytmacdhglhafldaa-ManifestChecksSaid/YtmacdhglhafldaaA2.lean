/- The abstract state of an activation, the abstract wp of code, and its rules for control; a function's abstract contract. -/
import Derived.Test.YtmacdhglhafldaaA1
import Derived.RangeFuncLeaves
import Derived.TacticsIn
namespace Go.Gp
open Go.RowKit
set_option linter.unusedVariables false

/-! ### Types, as a table -/
inductive TD where
  | basic
  | int (k : IntKind)
  | str
  | struct (fs : List (Nat × Nat))
  | array (n e : Nat)
  | slice (e : Nat)
  | map (k e : Nat)
  | ptr (e : Nat)
  | iface

def TD.ok : TD → TypeDesc → Prop
  | .basic, d => d = .bool
  | .int k, d => d = .int k
  | .str, d => d = .string
  | .struct fs, d => ∃ gs, d = .struct gs ∧ gs.toList.map (fun f => (f.offset, f.type)) = fs
  | .array n e, d => d = .array n e
  | .slice e, d => d = .slice e
  | .map k e, d => d = .map k e
  | .ptr e, d => d = .pointer e
  | .iface, d => ∃ ms, d = .interface ms

def TD.agg : TD → Bool
  | .struct _ | .array _ _ => true
  | _ => false

structure TI where
  d : TD
  sz : Nat
  zero : Value
  bytes : Nat

structure TI.ok (P : Program) (t : Nat) (i : TI) : Prop where
  u : ∃ d, P.underlying t = some d ∧ i.d.ok d
  info : (P.info? t).map (fun x => (x.zero, x.size, x.bytes)) = some (some i.zero, i.sz, i.bytes)

def lookT : List (Nat × TI) → Nat → Option TI
  | [], _ => none
  | (j, v) :: r, i => bif Nat.beq j i then some v else lookT r i

theorem lookT_mem : ∀ {T : List (Nat × TI)} {t : Nat} {i : TI}, lookT T t = some i → (t, i) ∈ T
  | [], _, _, h => by simp [lookT] at h
  | (j, v) :: r, t, i, h => by
    unfold lookT at h
    cases hb : Nat.beq j t with
    | true =>
      rw [hb] at h
      simp at h
      have := Nat.eq_of_beq_eq_true hb
      subst this; subst h
      exact List.mem_cons_self
    | false =>
      rw [hb] at h
      exact List.mem_cons_of_mem _ (lookT_mem (by simpa using h))

structure Env where
  P : Program
  T : List (Nat × TI)
  hT : ∀ e ∈ T, TI.ok P e.1 e.2
  G : GEnv
  mixed : P.follows .mixedOrders = true

theorem Env.ti {E : Env} {t : Nat} {i : TI} (h : lookT E.T t = some i) : TI.ok E.P t i := E.hT _ (lookT_mem h)

/-! ### An activation's slots -/
abbrev Slots := List (Nat × AV)

def look : Slots → Nat → AV
  | [], _ => .unk
  | (j, v) :: r, i => bif Nat.beq j i then v else look r i

/-- A temporary that was not written: its operation was skipped. -/
abbrev undefA : AV := .tup []

structure SR (c : Cfg) (n : Nat) (t : Slots) (a : Act) : Prop where
  size : a.tmps.size = n
  rel : ∀ i, RelV c (look t i) (a.tmps.getD i undef)

theorem SR.mono {c c' : Cfg} {n : Nat} {t : Slots} {a : Act} (h : Ext c c') (s : SR c n t a) : SR c' n t a := ⟨s.size, fun i => (s.rel i).mono h.toExt0⟩

theorem SR.put {c : Cfg} {n : Nat} {t : Slots} {a : Act} (s : SR c n t a) {d : Nat} {av : AV} {v : Value} (hd : Nat.blt d n = true) (hv : RelV c av v) : SR c n ((d, av) :: t) (a.put (some d) v) := by
  have hlt : d < n := by simpa using hd
  refine ⟨by simp [Act.put, s.size], fun i => ?_⟩
  unfold look
  cases hb : Nat.beq d i with
  | true =>
    have := Nat.eq_of_beq_eq_true hb
    subst this
    simp only [Act.put, cond_true]
    rw [Array.getD_eq_getD_getElem?, Array.getElem?_setIfInBounds, if_pos rfl, if_pos (by rw [s.size]; exact hlt)]
    exact hv
  | false =>
    have hne : d ≠ i := fun e => by subst e; simp at hb
    simp only [Act.put, cond_false]
    rw [Array.getD_eq_getD_getElem?, Array.getElem?_setIfInBounds, if_neg hne, ← Array.getD_eq_getD_getElem?]
    exact s.rel i

/-- What is said of a slot more often is the same. -/
theorem SR.look_cons {c : Cfg} {n : Nat} {t : Slots} {a : Act} (s : SR c n t a) {d : Nat} {av : AV} (h : look t d = av) : SR c n ((d, av) :: t) a := by
  refine ⟨s.size, fun i => ?_⟩
  unfold look
  cases hb : Nat.beq d i with
  | true => have := Nat.eq_of_beq_eq_true hb; subst this; simp only [cond_true]; rw [← h]; exact s.rel d
  | false => simp only [cond_false]; exact s.rel i

def marksOf (D : List Nat) : List Deferred := D.map fun b => ({ target := .collected b, args := #[] } : Deferred)

/-- The marks of this activation's loops over iterators. -/
def DefOk (c0 c : Cfg) (a : Act) : Prop := ∃ D : List Nat, a.defers = marksOf D ∧ D.Nodup ∧ ∀ b ∈ D, c.w.heap[b]? = some (.deferred (some [])) ∧ c0.w.heap.size ≤ b ∧ ∀ (id : Nat) o, c.H[id]? = some o → o.live = true → c.ι id ≠ some b

theorem block_lt {w : World} {b : Nat} {o : Obj} (h : w.heap[b]? = some o) : b < w.heap.size := (Array.getElem?_eq_some_iff.1 h).1

theorem DefOk.mono {c0 c c' : Cfg} {a a' : Act} (h : Ext c c') (ha : a'.defers = a.defers) (hd : DefOk c0 c a) : DefOk c0 c' a' := by
  obtain ⟨D, h1, hn, h2⟩ := hd
  refine ⟨D, ha.trans h1, hn, fun b hb => ?_⟩
  obtain ⟨h3, h4, h5⟩ := h2 b hb
  have hlt := block_lt h3
  refine ⟨(h.outer b hlt h5).trans h3, h4, fun id o ho hl hi => ?_⟩
  obtain ⟨o', ho', hl', hi'⟩ := h.nw id b o ho hl hi hlt
  exact h5 id o' ho' hl' hi'

inductive AX where
  | normal
  | exit (id : Nat)
  | ret
  | panic (v : AV)

def XR (c : Cfg) : AX → Exit → Prop
  | .normal, .normal => True
  | .exit i, .exit j => i = j
  | .ret, .ret => True
  | .panic a, .panic chain => ∃ v, chain = [{ v := v, recovered := false }] ∧ RelV c a v
  | _, _ => False

abbrev Kont := AX → Slots → List AObj → Prop

def Post (G : GEnv) (n : Nat) (cd c0 : Cfg) (K : Kont) : Exit → Act → World → Prop := fun e a w =>
  ∃ ι H t x, Ext c0 ⟨ι, H, w⟩ ∧ Ok G ⟨ι, H, w⟩ ∧ SR ⟨ι, H, w⟩ n t a ∧ DefOk cd ⟨ι, H, w⟩ a ∧ XR ⟨ι, H, w⟩ x e ∧ K x t H

theorem Post.mk {G : GEnv} {n : Nat} {cd c0 c : Cfg} {K : Kont} {e : Exit} {a : Act} {t : Slots} (x : AX) (h : Ext c0 c) (ho : Ok G c) (hs : SR c n t a) (hd : DefOk cd c a) (hx : XR c x e) (hK : K x t c.H) : Post G n cd c0 K e a c.w :=
  ⟨c.ι, c.H, t, x, h, ho, hs, hd, hx, hK⟩

def Fc : Option Nat → Fence
  | none => Fence.wide
  | some l => Fence.wide.inRound l

theorem Fc_round (ro : Option Nat) : (Fc ro).round = ro := by cases ro <;> rfl
theorem Fc_fn (ro : Option Nat) (f : FuncId) : (Fc ro).fn f := by cases ro <;> trivial
theorem Fc_depth (ro : Option Nat) : (Fc ro).depth = none := by cases ro <;> rfl
theorem Fc_room (ro : Option Nat) (n : Nat) : (Fc ro).room n := fun d h => by rw [Fc_depth] at h; cases h
theorem Fc_calls {ro : Option Nat} {n : Nat} {P : Program} {f : FuncId} {args : Array Value} {w : World} {R : Ending → World → Prop} : CallsIn (Fc ro) n P f args w R ↔ Calls P f args w R := by
  cases ro with
  | none => exact callsIn_wide
  | some l => exact callsIn_wide (n := n)

structure WpA (E : Env) (ro : Option Nat) (n : Nat) (code : Code) (K : Kont) (t : Slots) (H : List AObj) : Prop where
  out : ∀ (cd c0 c : Cfg) (a : Act), Ext c0 c → c.H = H → Ok E.G c → SR c n t a → DefOk cd c a → code.wpIn (Fc ro) 0 E.P (Post E.G n cd c0 K) a c.w

structure WpOps (E : Env) (ro : Option Nat) (n : Nat) (ops : Array Oper) (l : List Oper) (K : Kont) (t : Slots) (H : List AObj) : Prop where
  out : ∀ (cd c0 c : Cfg) (a : Act), Ext c0 c → c.H = H → Ok E.G c → SR c n t a → DefOk cd c a → wpListIn (Fc ro) 0 E.P ops (Post E.G n cd c0 K) l a c.w

section rules
variable {E : Env} {ro : Option Nat} {n : Nat} {K : Kont} {t : Slots} {H : List AObj}

theorem WpA.mono {code : Code} {K' : Kont} (h : WpA E ro n code K t H) (hk : ∀ x t H, K x t H → K' x t H) : WpA E ro n code K' t H :=
  ⟨fun cd c0 c a e1 e2 e3 e4 e5 => wpIn_mono (h.out cd c0 c a e1 e2 e3 e4 e5) fun e a w ⟨ι, H, t, x, h1, h2, h3, h4, h5, h6⟩ => ⟨ι, H, t, x, h1, h2, h3, h4, h5, hk x t H h6⟩⟩

theorem WpA.skip (h : K .normal t H) : WpA E ro n .skip K t H := ⟨fun cd c0 c a e1 e2 e3 e4 e5 => wpIn_skip (Post.mk .normal e1 e3 e4 e5 trivial (by rw [e2]; exact h))⟩
theorem WpA.exit {id : Nat} (h : K (.exit id) t H) : WpA E ro n (.exit id) K t H := ⟨fun cd c0 c a e1 e2 e3 e4 e5 => wpIn_exit (Post.mk (.exit id) e1 e3 e4 e5 rfl (by rw [e2]; exact h))⟩
theorem WpA.ret (h : K .ret t H) : WpA E ro n .ret K t H := ⟨fun cd c0 c a e1 e2 e3 e4 e5 => wpIn_ret (Post.mk .ret e1 e3 e4 e5 trivial (by rw [e2]; exact h))⟩

/-- What stands behind: met where the first part ends normally. -/
def thenK (K1 : Slots → List AObj → Prop) (K : Kont) : Kont
  | .normal, t, H => K1 t H
  | x, t, H => K x t H

theorem WpA.seq {x y : Code} (h : WpA E ro n x (thenK (WpA E ro n y K) K) t H) : WpA E ro n (.seq x y) K t H := by
  refine ⟨?_⟩
  intro cd c0 c a e1 e2 e3 e4 e5
  refine wpIn_seq (wpIn_mono (h.out cd c0 c a e1 e2 e3 e4 e5) ?_)
  rintro e a' w' ⟨ι, H', t', x', h1, h2, h3, h4, h5, h6⟩
  cases e with
  | normal =>
    cases x' <;> try exact h5.elim
    exact h6.out cd c0 ⟨ι, H', w'⟩ a' h1 rfl h2 h3 h4
  | exit id => cases x' <;> first | exact h5.elim | exact ⟨ι, H', t', _, h1, h2, h3, h4, h5, h6⟩
  | goto l => cases x' <;> exact h5.elim
  | ret => cases x' <;> first | exact h5.elim | exact ⟨ι, H', t', _, h1, h2, h3, h4, h5, h6⟩
  | panic ch => cases x' <;> first | exact h5.elim | exact ⟨ι, H', t', _, h1, h2, h3, h4, h5, h6⟩
  | outgrown => cases x' <;> exact h5.elim

def blockK (id : Nat) (K : Kont) : Kont
  | .exit i, t, H => if i = id then K .normal t H else K (.exit i) t H
  | x, t, H => K x t H

theorem WpA.block {id : Nat} {x : Code} (h : WpA E ro n x (blockK id K) t H) : WpA E ro n (.block id x) K t H := by
  refine ⟨?_⟩
  intro cd c0 c a e1 e2 e3 e4 e5
  refine wpIn_block (wpIn_mono (h.out cd c0 c a e1 e2 e3 e4 e5) ?_)
  rintro e a' w' ⟨ι, H', t', x', h1, h2, h3, h4, h5, h6⟩
  cases e with
  | normal => cases x' <;> first | exact h5.elim | exact ⟨ι, H', t', _, h1, h2, h3, h4, h5, h6⟩
  | exit i =>
    cases x' <;> try exact h5.elim
    rename_i j
    have hj : j = i := h5
    subst hj
    simp only [Exit.inBlock]
    simp only [blockK] at h6
    split
    · rename_i hi
      rw [if_pos hi] at h6
      exact ⟨ι, H', t', .normal, h1, h2, h3, h4, trivial, h6⟩
    · rename_i hi
      rw [if_neg hi] at h6
      exact ⟨ι, H', t', .exit j, h1, h2, h3, h4, rfl, h6⟩
  | goto l => cases x' <;> exact h5.elim
  | ret => cases x' <;> first | exact h5.elim | exact ⟨ι, H', t', _, h1, h2, h3, h4, h5, h6⟩
  | panic ch => cases x' <;> first | exact h5.elim | exact ⟨ι, H', t', _, h1, h2, h3, h4, h5, h6⟩
  | outgrown => cases x' <;> exact h5.elim

/-! ### Constants and operands -/
def const1 : Value → AV
  | .int k n => .int k n
  | .bool b => .bool b
  | .string s => .str s.data.toList
  | .pointer none => .nilp
  | .slice none 0 0 => .sl .full 0 []
  | .nilFunc => .nilf
  | .nilIface => .nili
  | .map none => .nilm
  | _ => .unk

def constA : Value → AV
  | .agg ⟨cs⟩ => .agg (cs.map const1)
  | .tuple ⟨cs⟩ => .tup (cs.map const1)
  | .iface t v => .iface t (const1 v)
  | v => const1 v

theorem const1_rel (c : Cfg) (v : Value) : RelV c (const1 v) v := by
  unfold const1
  split
  · exact .int
  · exact .bool
  · rename_i s
    have : (Value.string s) = .string ⟨s.data.toList.toArray⟩ := by simp
    rw [this]; simpa using RelV.str (c := c) (s := s.data.toList)
  · exact .nilp
  · exact .sl (fun _ _ => undef) rfl (Nat.le_refl _) (by simp) rfl (fun i j hi => by omega) (fun i j l e h => by simp at h)
  · exact .nilf
  · exact .nili
  · exact .nilm
  · exact .unk

theorem const1_relL (c : Cfg) : ∀ vs : List Value, RelL c (vs.map const1) vs
  | [] => RelL.nil c
  | v :: vs => RelL.cons (const1_rel c v) (const1_relL c vs)

theorem constA_rel (c : Cfg) (v : Value) : RelV c (constA v) v := by
  unfold constA
  split
  · rename_i cs; have h := const1_relL c cs; exact .agg cs h.1 h.2
  · rename_i cs; have h := const1_relL c cs; exact .tup cs h.1 h.2
  · exact .iface (const1_rel c _)
  · exact const1_rel c _

def evalA (G : GEnv) (t : Slots) : Operand → AV
  | .tmp i => look t i
  | .const v => constA v
  | .global g => match G g with | some cs => .rp cs | none => .unk
  | .func f => .func f []

theorem eval_rel {G : GEnv} {c : Cfg} {n : Nat} {t : Slots} {a : Act} (ho : Ok G c) (s : SR c n t a) (x : Operand) : RelV c (evalA G t x) (a.eval x) := by
  cases x with
  | tmp i => exact s.rel i
  | const v => exact constA_rel c v
  | global g =>
    simp only [evalA, Act.eval]
    cases hg : G g with
    | some cs => exact ho.glob g cs hg
    | none => exact .unk
  | func f => exact .func [] rfl (fun i a v h => by simp at h)

theorem RelV.bool_inv {c : Cfg} {b : Bool} {v : Value} (h : RelV c (.bool b) v) : v = .bool b := by cases h; rfl

theorem WpA.cond {o : Operand} {x y : Code} (b : Bool) (hc : evalA E.G t o = .bool b) (h1 : b = true → WpA E ro n x K t H) (h2 : b = false → WpA E ro n y K t H) : WpA E ro n (.cond o x y) K t H := by
  refine ⟨?_⟩
  intro cd c0 c a e1 e2 e3 e4 e5
  have hr := eval_rel e3 e4 o
  rw [hc] at hr
  refine wpIn_cond_split (t := b) hr.bool_inv (fun hb => (h1 hb).out cd c0 c a e1 e2 e3 e4 e5) (fun hb => (h2 hb).out cd c0 c a e1 e2 e3 e4 e5)

theorem WpA.region {id : Nat} {l : List Oper} (h : WpOps E ro n l.toArray l K t H) : WpA E ro n (.region id l.toArray false) K t H :=
  ⟨fun cd c0 c a e1 e2 e3 e4 e5 => wpIn_region_lit (h.out cd c0 c a e1 e2 e3 e4 e5)⟩

theorem WpOps.nil {ops : Array Oper} (h : K .normal t H) : WpOps E ro n ops [] K t H :=
  ⟨fun cd c0 c a e1 e2 e3 e4 e5 => wpListIn_nil (Post.mk .normal e1 e3 e4 e5 trivial (by rw [e2]; exact h))⟩

/-- A loop: I m: what holds at a round's head, m going down. -/
theorem WpA.loop {body : Code} (I : Nat → Slots → List AObj → Prop) (m : Nat) (h0 : I m t H)
    (hr : ∀ m t H, I m t H → WpA E ro n body (thenK (fun t' H' => ∃ m', m' < m ∧ I m' t' H') K) t H) : WpA E ro n (.loop body) K t H := by
  refine ⟨?_⟩
  intro cd c0 c a e1 e2 e3 e4 e5 b k cs hro hb hrm
  have key : ∀ j (m : Nat) (t : Slots) (H : List AObj) (c : Cfg) (a : Act), m = j → I m t H → Ext c0 c → c.H = H → Ok E.G c → SR c n t a → DefOk cd c a →
      ∃ e a' w', Post E.G n cd c0 K e a' w' ∧ ArrivesIn (Machine.fenced E.P (Fc ro)) E.P (lone (b.atR a (.code body :: .inLoop body :: k)) cs c.w) b k cs e a' w' := by
    intro j
    induction j using Nat.strongRecOn with
    | _ j ih =>
      intro m t H c a hm hI e1 e2 e3 e4 e5
      obtain ⟨e, a₁, w₁, hq, harr⟩ := (hr m t H hI).out cd c0 c a e1 e2 e3 e4 e5 b (.inLoop body :: k) cs hro hb hrm
      obtain ⟨ι, H', t', x', h1, h2, h3, h4, h5, h6⟩ := hq
      cases e with
      | normal =>
        cases x' <;> try exact h5.elim
        obtain ⟨m', hlt, hI'⟩ := h6
        obtain ⟨e₂, a₂, w₂, hq₂, harr₂⟩ := ih m' (hm ▸ hlt) m' t' H' ⟨ι, H', w₁⟩ a₁ rfl hI' h1 rfl h2 h3 h4
        exact ⟨e₂, a₂, w₂, hq₂, .of_steps (StepsIn.trans harr (.one (fenced_calm hb hrm rfl) stepR_inLoop)) harr₂⟩
      | exit id => cases x' <;> first | exact h5.elim | exact ⟨_, a₁, w₁, ⟨ι, H', t', _, h1, h2, h3, h4, h5, h6⟩, .pass (x := .inLoop body) rfl (fun _ _ => .inl (by simp)) harr⟩
      | goto l => cases x' <;> exact h5.elim
      | ret => cases x' <;> first | exact h5.elim | exact ⟨_, a₁, w₁, ⟨ι, H', t', _, h1, h2, h3, h4, h5, h6⟩, .pass (x := .inLoop body) rfl (fun _ _ => .inl (by simp)) harr⟩
      | panic ch => cases x' <;> first | exact h5.elim | exact ⟨_, a₁, w₁, ⟨ι, H', t', _, h1, h2, h3, h4, h5, h6⟩, .pass (x := .inLoop body) rfl (fun _ _ => .inl (by simp)) harr⟩
      | outgrown => cases x' <;> exact h5.elim
  obtain ⟨e, a', w', hq, harr⟩ := key m m t H c a rfl h0 e1 e2 e3 e4 e5
  exact ⟨e, a', w', hq, .of_steps (.one (fenced_calm hb hrm rfl) stepR_loop) harr⟩
end rules

/-! ### Contracts -/
inductive AEnd where
  | ret (r : AV)
  | panic (v : AV)

def EndR (c : Cfg) : AEnd → Ending → Prop
  | .ret r, .returned v => RelV c r v
  | .panic r, .panicked chain => ∃ v, chain = [{ v := v, recovered := false }] ∧ RelV c r v
  | _, _ => False

def PostC (G : GEnv) (c0 : Cfg) (R : AEnd → List AObj → Prop) : Ending → World → Prop := fun e w =>
  ∃ ι H x, Ext c0 ⟨ι, H, w⟩ ∧ Ok G ⟨ι, H, w⟩ ∧ EndR ⟨ι, H, w⟩ x e ∧ R x H

def UponC (P : Program) (Q : Ending → World → Prop) : Result Next → Prop
  | .ok (.enter f args) w => Calls P f args w Q
  | .ok (.value v) w => Q (.returned v) w
  | _ => False

/-- Called with such arguments over such a heap, the function ends so. -/
structure CallsA (E : Env) (g : FuncId) (args : List AV) (H : List AObj) (R : AEnd → List AObj → Prop) : Prop where
  out : ∀ (c : Cfg) (vs : List Value), c.H = H → Ok E.G c → RelL c args vs → UponC E.P (PostC E.G c R) ((callFunc g vs.toArray).run E.P c.w)

theorem CallsA.mono {E : Env} {g : FuncId} {args : List AV} {H : List AObj} {R R' : AEnd → List AObj → Prop} (h : CallsA E g args H R) (hr : ∀ x H, R x H → R' x H) : CallsA E g args H R' := by
  refine ⟨?_⟩
  intro c vs e1 e2 e3
  have h' := h.out c vs e1 e2 e3
  unfold UponC at *
  split at h'
  · exact h'.mono fun e w ⟨ι, H, x, a1, a2, a3, a4⟩ => ⟨ι, H, x, a1, a2, a3, hr x H a4⟩
  · obtain ⟨ι, H, x, a1, a2, a3, a4⟩ := h'
    exact ⟨ι, H, x, a1, a2, a3, hr x H a4⟩
  · exact h'.elim

def frame : Nat → List AV → Slots
  | _, [] => []
  | i, a :: as => (i, a) :: frame (i + 1) as

theorem look_frame : ∀ (as : List AV) (k i : Nat), look (frame k as) i = if k ≤ i then (as[i - k]?).getD .unk else .unk
  | [], k, i => by simp [frame, look]
  | a :: as, k, i => by
    unfold frame look
    rw [look_frame as (k + 1) i]
    cases hb : Nat.beq k i with
    | true => have := Nat.eq_of_beq_eq_true hb; subst this; simp
    | false =>
      have hne : k ≠ i := fun e => by subst e; simp at hb
      simp only [cond_false]
      by_cases hk : k ≤ i
      · rw [if_pos hk, if_pos (by omega), show i - k = (i - (k + 1)) + 1 from by omega, List.getElem?_cons_succ]
      · rw [if_neg hk, if_neg (by omega)]

/-- A result's slot; a result that lies in a box of the activation's own (L: what it has laid, from id n0 on). -/
def resA (L : List AObj) (T : List (Nat × TI)) (t : Slots) : ResultVar → Option AV
  | .tmp i => some (look t i)
  | .cell a ty => match look t a, lookT T ty with
    | .ptr _ j 0, some i => match L[j]? with
      | some (.cells cs) => bif i.d.agg then (bif Nat.beq cs.length i.sz then some (.agg cs) else none) else cs[0]?
      | _ => none
    | _, _ => none

def resN (n0 : Nat) (t : Slots) : List ResultVar → List Nat
  | [] => []
  | .tmp _ :: rs => n0 :: resN n0 t rs
  | .cell a _ :: rs => (match look t a with | .ptr n _ _ => n | _ => n0) :: resN n0 t rs

def resL (L : List AObj) (T : List (Nat × TI)) (t : Slots) : List ResultVar → Option (List AV)
  | [] => some []
  | r :: rs => match resA L T t r, resL L T t rs with
    | some a, some as => some (a :: as)
    | _, _ => none

def resV : List AV → AV
  | [a] => a
  | as => .tup as

mutual
/-- The value, its tags forgotten. -/
def forget : AV → AV
  | .sl _ z xs => .sl .no z xs
  | .agg cs => .agg (forgetL cs)
  | .tup cs => .tup (forgetL cs)
  | a => a
def forgetL : List AV → List AV
  | [] => []
  | a :: as => forget a :: forgetL as
end

theorem forgetL_length : ∀ as, (forgetL as).length = as.length
  | [] => rfl
  | _ :: as => by simp [forgetL, forgetL_length as]
theorem forgetL_get : ∀ (as : List AV) (i : Nat), (forgetL as)[i]? = (as[i]?).map forget
  | [], i => by simp [forgetL]
  | a :: as, 0 => by simp [forgetL]
  | a :: as, i + 1 => by simp [forgetL, forgetL_get as i]

theorem RelV.forget {c : Cfg} {a : AV} {v : Value} (h : RelV c a v) : RelV c (forget a) v := by
  induction h with
  | sl vs hl hc hz ht hf hr ih => exact .sl vs hl hc hz trivial hf hr
  | agg ws hl hr ih =>
    refine .agg ws (by rw [forgetL_length]; exact hl) fun i a v h1 h2 => ?_
    rw [forgetL_get] at h1
    obtain ⟨a', h3, rfl⟩ := Option.map_eq_some_iff.1 h1
    exact ih i a' v h3 h2
  | tup ws hl hr ih =>
    refine .tup ws (by rw [forgetL_length]; exact hl) fun i a v h1 h2 => ?_
    rw [forgetL_get] at h1
    obtain ⟨a', h3, rfl⟩ := Option.map_eq_some_iff.1 h1
    exact ih i a' v h3 h2
  | int => exact .int
  | bool => exact .bool
  | str => exact .str
  | nilp => exact .nilp
  | ptr h => exact .ptr h
  | rp vs hs hf hr ih => exact .rp vs hs hf hr
  | os h hc => exact .os h hc
  | func ws hl hr ih => exact .func ws hl hr
  | nilf => exact .nilf
  | iface h ih => exact .iface h
  | nili => exact .nili
  | map h => exact .map h
  | nilm => exact .nilm
  | yld h => exact .yld h
  | unk => exact .unk

end Go.Gp
