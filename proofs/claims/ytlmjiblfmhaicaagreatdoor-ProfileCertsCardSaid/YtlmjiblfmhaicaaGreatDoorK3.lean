/- Part of a proof: GpA4, GpA5, GpA6 -/
import Derived.Test.YtlmjiblfmhaicaaGreatDoorK2

set_option linter.unusedSectionVars false

/- Operations over abstract values: those that leave memory alone; guards; the rules' common step. -/
namespace Go.Gp
open Go.RowKit
set_option linter.unusedVariables false
set_option linter.unusedSimpArgs false

/-! ### Guards -/
def wantedA (ops : Array Oper) (t : Slots) (o : Oper) : Option Bool :=
  match o.guard with
  | none => some true
  | some (j, want) => match (ops[j]?).bind (·.dst) with
    | none => some false
    | some d => match look t d with
      | .bool b => some (b == want)
      | .tup [] => some false
      | _ => none

theorem RelV.undef_inv {c : Cfg} {v : Value} (h : RelV c (.tup []) v) : v = undef := by
  cases h with
  | tup ws hl hr =>
    have : ws = [] := List.length_eq_zero_iff.1 hl.symm
    subst this
    rfl

theorem wanted_eq {c : Cfg} {n : Nat} {t : Slots} {a : Act} {ops : Array Oper} {o : Oper} {b : Bool} (s : SR c n t a) (h : wantedA ops t o = some b) : Region.wanted o (yielded ops a.tmps) = b := by
  unfold wantedA at h
  unfold Region.wanted
  split at h
  · rename_i hg
    rw [hg]
    simpa using h
  · rename_i j want hg
    rw [hg]
    simp only [yielded]
    split at h
    · rename_i hd
      rw [hd]
      simp at h ⊢
      exact h
    · rename_i d hd
      rw [hd]
      simp only [Option.bind_some]
      have hr := s.rel d
      split at h
      · rename_i x hx
        rw [hx] at hr
        have hv := hr.bool_inv
        have : a.tmps[d]? = some (.bool x) := by
          rw [Array.getD_eq_getD_getElem?] at hv
          cases hq : a.tmps[d]? with
          | none => rw [hq] at hv; simp [undef] at hv
          | some u => rw [hq] at hv; simp at hv; rw [hv]
        rw [this]
        simp at h ⊢
        exact h
      · rename_i hx
        rw [hx] at hr
        have hv := hr.undef_inv
        have : ∀ x, a.tmps[d]? ≠ some (.bool x) := by
          intro x hq
          rw [Array.getD_eq_getD_getElem?, hq] at hv
          simp [undef] at hv
        simp only [Option.some.injEq] at h
        subst h
        cases hq : a.tmps[d]? with
        | none => rfl
        | some u =>
          cases u <;> first | rfl | exact absurd hq (this _)
      · simp at h

/-! ### The common step -/
def notDefer (o : Oper) : Prop := ∀ c, o.op ≠ .defer c

theorem wpListIn_of {ro : Option Nat} {P : Program} {ops : Array Oper} {Q : Exit → Act → World → Prop} {a : Act} {w : World} {o : Oper} {rest : List Oper}
    (hw : Region.wanted o (yielded ops a.tmps) = true) (hnd : notDefer o)
    (h : o.uponIn (Fc ro) 0 P a (wpListIn (Fc ro) 0 P ops Q rest) Q ((execOp a.eval o).run P w)) : wpListIn (Fc ro) 0 P ops Q (o :: rest) a w := by
  simp only [wpListIn, hw, if_true]
  refine ⟨fun f _ => Fc_fn ro f, ?_⟩
  rw [Oper.semAt_eq _ _ _ hnd]
  exact h

section steps
variable {E : Env} {ro : Option Nat} {n : Nat} {K : Kont} {t : Slots} {H H1 : List AObj} {ops : Array Oper} {o : Oper} {rest : List Oper}

/-- An operation that yields a value, whatever it does to memory. -/
theorem WpOps.value {d : Nat} {av : AV} (hw : wantedA ops t o = some true) (hd : o.dst = some d) (hdn : Nat.blt d n = true) (hnd : notDefer o)
    (h : ∀ (c : Cfg) (a : Act), c.H = H → Ok E.G c → SR c n t a → ∃ v ι' w', (execOp a.eval o).run E.P c.w = .ok (.value v) w' ∧ Ext c ⟨ι', H1, w'⟩ ∧ HR ⟨ι', H1, w'⟩ ∧ RelV ⟨ι', H1, w'⟩ av v)
    (hk : WpOps E ro n ops rest K ((d, av) :: t) H1) : WpOps E ro n ops (o :: rest) K t H := by
  refine ⟨?_⟩
  intro cd c0 c a e1 e2 e3 e4 e5
  obtain ⟨v, ι', w', hr, hx, hh, hv⟩ := h c a e2 e3 e4
  refine wpListIn_of (wanted_eq e4 hw) hnd ?_
  rw [hr, Oper.uponIn_value, hd]
  exact hk.out cd c0 ⟨ι', H1, w'⟩ _ (e1.trans hx) rfl (e3.step hx hh) ((e4.mono hx).put hdn hv) (e5.mono hx rfl)

/-- An operation that yields nothing. -/
theorem WpOps.unit (hw : wantedA ops t o = some true) (hd : o.dst = none) (hnd : notDefer o)
    (h : ∀ (c : Cfg) (a : Act), c.H = H → Ok E.G c → SR c n t a → ∃ ι' w', (execOp a.eval o).run E.P c.w = .ok .skip w' ∧ Ext c ⟨ι', H1, w'⟩ ∧ HR ⟨ι', H1, w'⟩)
    (hk : WpOps E ro n ops rest K t H1) : WpOps E ro n ops (o :: rest) K t H := by
  refine ⟨?_⟩
  intro cd c0 c a e1 e2 e3 e4 e5
  obtain ⟨ι', w', hr, hx, hh⟩ := h c a e2 e3 e4
  refine wpListIn_of (wanted_eq e4 hw) hnd ?_
  rw [hr, Oper.uponIn_skip, hd]
  exact hk.out cd c0 ⟨ι', H1, w'⟩ _ (e1.trans hx) rfl (e3.step hx hh) (e4.mono hx) (e5.mono hx rfl)

/-- An operation that its guard leaves out. -/
theorem WpOps.skip {d : Nat} (hw : wantedA ops t o = some false) (hd : o.dst = some d) (hdn : Nat.blt d n = true)
    (hk : WpOps E ro n ops rest K ((d, undefA) :: t) H) : WpOps E ro n ops (o :: rest) K t H := by
  refine ⟨?_⟩
  intro cd c0 c a e1 e2 e3 e4 e5
  simp only [wpListIn, wanted_eq e4 hw, Bool.false_eq_true, if_false]
  refine ⟨fun f _ => Fc_fn ro f, ?_⟩
  rw [hd]
  exact hk.out cd c0 c _ e1 e2 e3 (e4.put hdn (.tup [] rfl (fun i a v h => by simp at h))) (e5.mono (Ext.refl c) rfl)

/-- A slot's bool is parted: in each half it is a literal. -/
theorem WpOps.split {l : List Oper} (d : Nat) (b : Bool) (hb : look t d = .bool b) (h1 : b = true → WpOps E ro n ops l K ((d, .bool true) :: t) H) (h2 : b = false → WpOps E ro n ops l K ((d, .bool false) :: t) H) :
    WpOps E ro n ops l K t H := by
  refine ⟨?_⟩
  intro cd c0 c a e1 e2 e3 e4 e5
  cases b with
  | true => exact (h1 rfl).out cd c0 c a e1 e2 e3 (e4.look_cons hb) e5
  | false => exact (h2 rfl).out cd c0 c a e1 e2 e3 (e4.look_cons hb) e5
end steps

/-! ### Values that need no memory but what is frozen -/
def cellsA : AV → Option (List AV)
  | .agg cs => some cs
  | .unk => none
  | .tup _ => none
  | a => some [a]

def AV.one : AV → Bool
  | .agg _ | .unk | .tup _ => false
  | _ => true

theorem RelV.one' {c : Cfg} {a : AV} {v : Value} (h : RelV c a v) (ha : a.one = true) : v.oneCell' = true := by
  cases h <;> first | rfl | simp [AV.one] at ha

theorem cellsA_rel {c : Cfg} {a : AV} {v : Value} {cs : List AV} (h : RelV c a v) (ha : cellsA a = some cs) : RelL c cs v.cells.toList := by
  cases h <;> simp only [cellsA, Option.some.injEq, reduceCtorEq] at ha <;> try (subst ha; refine RelL.cons ?_ (RelL.nil c))
  case agg ws hl hr => subst ha; exact ⟨hl, hr⟩
  case int => exact .int
  case bool => exact .bool
  case str => exact .str
  case nilp => exact .nilp
  case ptr h => exact .ptr h
  case rp vs hs hf hr => exact .rp vs hs hf hr
  case sl vs hl hc hz ht hf hr => exact .sl vs hl hc hz ht hf hr
  case os h hc => exact .os h hc
  case ov h hc hs => exact .ov h hc hs
  case func ws hl hr => exact .func ws hl hr
  case nilf => exact .nilf
  case iface h => exact .iface h
  case nili => exact .nili
  case map h => exact .map h
  case nilm => exact .nilm
  case yld h => exact .yld h

def constO : Value → Option AV
  | .int k n => some (.int k n)
  | .bool b => some (.bool b)
  | .string s => some (.str s.data.toList)
  | .pointer none => some .nilp
  | .slice none 0 0 => some (.sl .full 0 [])
  | .nilFunc => some .nilf
  | .nilIface => some .nili
  | .map none => some .nilm
  | _ => none

theorem constO_eq {v : Value} {a : AV} (h : constO v = some a) : constA v = a := by
  unfold constO at h
  split at h <;> simp only [Option.some.injEq, reduceCtorEq] at h <;> (subst h; rfl)

def lookO : Slots → Nat → Option AV
  | [], _ => none
  | (j, v) :: r, i => bif Nat.beq j i then some v else lookO r i

theorem lookO_eq : ∀ {t : Slots} {i : Nat} {a : AV}, lookO t i = some a → look t i = a
  | [], _, _, h => by simp [lookO] at h
  | (j, v) :: r, i, a, h => by
    unfold lookO at h
    unfold look
    cases hb : Nat.beq j i with
    | true => rw [hb] at h; simp only [cond_true, Option.some.injEq] at h ⊢; exact h
    | false => rw [hb] at h; simp only [cond_false] at h ⊢; exact lookO_eq h

def evalO (G : GEnv) (t : Slots) : Operand → Option AV
  | .tmp i => lookO t i
  | .const v => constO v
  | .global g => match G g with | some cs => some (.rp cs) | none => none
  | .func f => some (.func f [])

theorem evalO_eq {G : GEnv} {t : Slots} {x : Operand} {a : AV} (h : evalO G t x = some a) : evalA G t x = a := by
  cases x with
  | tmp i => exact lookO_eq h
  | const v => exact constO_eq h
  | global g =>
    simp only [evalO] at h
    simp only [evalA]
    split at h
    · rename_i cs hg; rw [hg]; simpa using h
    · simp at h
  | func f => simpa [evalO, evalA] using h

def pickA (b : Bool) : AV → AV → AV
  | .bool x, .bool y => .bool (bif b then x else y)
  | x, y => bif b then x else y

def pickO (b : Bool) (x y : AV) : Option AV :=
  match x, y with
  | .bool x, .bool y => some (.bool (bif b then x else y))
  | x, y => bif b then some x else some y

theorem pickO_eq {b : Bool} {x y a : AV} (h : pickO b x y = some a) : pickA b x y = a := by
  unfold pickO at h
  unfold pickA
  split at h
  · simpa using h
  · rename_i hn
    cases b <;> simpa using h

def evalL (G : GEnv) (t : Slots) : List Operand → List AV
  | [] => []
  | x :: xs => evalA G t x :: evalL G t xs

theorem evalL_rel {G : GEnv} {c : Cfg} {n : Nat} {t : Slots} {a : Act} (ho : Ok G c) (s : SR c n t a) : ∀ xs : List Operand, RelL c (evalL G t xs) (xs.map a.eval)
  | [] => RelL.nil c
  | x :: xs => RelL.cons (eval_rel ho s x) (evalL_rel ho s xs)

def intA (op : BinOp) (k : IntKind) (x y : Int) : Option AV :=
  match op with
  | .add => some (.int k (k.wrap (x + y)))
  | .sub => some (.int k (k.wrap (x - y)))
  | .mul => some (.int k (k.wrap (x * y)))
  | .and => some (.int k (k.wrap (BitVec.ofInt k.bits x &&& BitVec.ofInt k.bits y).toNat))
  | .or => some (.int k (k.wrap (BitVec.ofInt k.bits x ||| BitVec.ofInt k.bits y).toNat))
  | .xor => some (.int k (k.wrap (BitVec.ofInt k.bits x ^^^ BitVec.ofInt k.bits y).toNat))
  | .andNot => some (.int k (k.wrap (BitVec.ofInt k.bits x &&& ~~~BitVec.ofInt k.bits y).toNat))
  | .eql => some (.bool (x == y))
  | .neq => some (.bool (x != y))
  | .lss => some (.bool (decide (x < y)))
  | .leq => some (.bool (decide (x ≤ y)))
  | .gtr => some (.bool (decide (x > y)))
  | .geq => some (.bool (decide (x ≥ y)))
  | _ => none

def strA (op : BinOp) (x y : List UInt8) : Option AV :=
  match op with
  | .eql => some (.bool (x == y))
  | .neq => some (.bool (!(x == y)))
  | .lss => some (.bool (Op.bytesLess x y))
  | .leq => some (.bool (Op.bytesLess x y || x == y))
  | .gtr => some (.bool (!(Op.bytesLess x y || x == y)))
  | .geq => some (.bool (!Op.bytesLess x y))
  | _ => none

theorem pickA_rel {c : Cfg} {b : Bool} {x y : AV} {u v : Value} (h1 : RelV c x u) (h2 : RelV c y v) : RelV c (pickA b x y) (if b = true then u else v) := by
  have h : RelV c (bif b then x else y) (if b = true then u else v) := by cases b <;> simpa
  unfold pickA
  split
  · rename_i p q
    have := h1.bool_inv
    have := h2.bool_inv
    subst u; subst v
    cases b <;> exact .bool
  · exact h

theorem ByteArray.toList_loop (s : ByteArray) : ∀ (k i : Nat) (acc : List UInt8), k = s.size - i → ByteArray.toList.loop s i acc = acc.reverse ++ s.data.toList.drop i
  | 0, i, acc, h => by
    have hi : s.data.toList.length ≤ i := by simp; show s.size ≤ i; omega
    unfold ByteArray.toList.loop
    rw [if_neg (by omega), List.drop_eq_nil_of_le hi]
    simp
  | k + 1, i, acc, h => by
    have hi : i < s.size := by omega
    have hi' : i < s.data.toList.length := by simp; exact hi
    unfold ByteArray.toList.loop
    rw [if_pos hi, toList_loop s k (i + 1) _ (by omega), List.reverse_cons, List.append_assoc, List.drop_eq_getElem_cons hi']
    congr 2
    simp [ByteArray.get!, Array.getD, hi]

theorem toList_mk (l : List UInt8) : (ByteArray.mk l.toArray).toList = l := by
  unfold ByteArray.toList
  rw [ByteArray.toList_loop _ _ 0 [] rfl]
  simp


def binA (T : List (Nat × TI)) (op : BinOp) (ty : Nat) (x y : AV) : Option AV :=
  match x, y with
  | .int k a, .int k' b => match op with
    | .shl => none
    | .shr => none
    | op => if k = k' then intA op k a b else none
  | .bool a, .bool b => match (lookT T ty).map TI.d, op with
    | some .basic, .eql => some (.bool (a == b))
    | some .basic, .neq => some (.bool (!(a == b)))
    | _, _ => none
  | .str a, .str b => strA op a b
  | _, _ => none

theorem eqGuard_plain {P : Program} {w : World} {op : BinOp} {t : TypeId} {x y : Operand} {a b : Value} (h1 : ∀ cs, a ≠ .agg cs) (h2 : a ≠ .nilIface) : (eqGuard op t x y a b).run P w = .ok () w := by
  unfold eqGuard
  split
  all_goals first
    | (simp; done)
    | (cases a <;> first | exact absurd rfl h2 | exact absurd rfl (h1 _) | (simp; done))

theorem run_equal_bool {P : Program} {w : World} {ty : TypeId} (hu : P.underlying ty = some .bool) (a b : Bool) : (Op.equal ty (.bool a) (.bool b)).run P w = .ok (a == b) w := by
  show (Op.equalIn (9999 + 1) ty (.bool a) (.bool b)).run P w = _
  generalize 9999 = d
  unfold Op.equalIn
  simp only [Sem.run_bind, run_underlying hu, Result.andThen_ok, Sem.run_pure]

theorem binA_sound {E : Env} {c : Cfg} {op : BinOp} {ty : Nat} {x y av : AV} {u v : Value} {ox oy : Operand} (h : binA E.T op ty x y = some av) (h1 : RelV c x u) (h2 : RelV c y v) :
    ∃ r, (do eqGuard op ty ox oy u v; binOp op ty u v).run E.P c.w = .ok r c.w ∧ RelV c av r := by
  unfold binA at h
  split at h
  · rename_i k a k' b
    cases h1; cases h2
    rw [Sem.run_bind, eqGuard_plain (by simp) (by simp)]
    simp only [Result.andThen_ok]
    have hk : ∀ op', op' = op → op ≠ .shl → op ≠ .shr → (if k = k' then intA op k a b else none) = some av → ∃ r, (binOp op ty (.int k a) (.int k' b)).run E.P c.w = .ok r c.w ∧ RelV c av r := by
      clear h
      rintro op' rfl n1 n2 g
      by_cases hkk : k = k'
      · subst hkk
        rw [if_pos rfl] at g
        cases op' <;> simp only [intA, Option.some.injEq, reduceCtorEq] at g
        all_goals first
          | (subst g; exact ⟨_, by simp [binOp, Op.intArith, Op.intBits, Op.intCmp], .int⟩)
          | (subst g; exact ⟨_, by simp [binOp, Op.intArith, Op.intBits, Op.intCmp], .bool⟩)
      · rw [if_neg hkk] at g
        simp at g
    cases op <;> first | (simp at h; done) | exact hk _ rfl (by simp) (by simp) h
  · rename_i a b
    cases h1; cases h2
    rw [Sem.run_bind, eqGuard_plain (by simp) (by simp)]
    simp only [Result.andThen_ok]
    split at h
    · rename_i hl
      obtain ⟨i, hi, hd⟩ := Option.map_eq_some_iff.1 hl
      obtain ⟨d, hu, hok⟩ := (Env.ti hi).u
      rw [hd] at hok
      have hok' : d = .bool := hok
      subst hok'
      simp only [Option.some.injEq] at h
      subst h
      refine ⟨_, ?_, .bool⟩
      show (do pure (Value.bool (← Op.equal ty (.bool a) (.bool b))) : Sem Value).run E.P c.w = _
      rw [Sem.run_bind, run_equal_bool hu]
      rfl
    · rename_i hl
      obtain ⟨i, hi, hd⟩ := Option.map_eq_some_iff.1 hl
      obtain ⟨d, hu, hok⟩ := (Env.ti hi).u
      rw [hd] at hok
      have hok' : d = .bool := hok
      subst hok'
      simp only [Option.some.injEq] at h
      subst h
      refine ⟨_, ?_, .bool⟩
      show (do pure (Value.bool (!(← Op.equal ty (.bool a) (.bool b)))) : Sem Value).run E.P c.w = _
      rw [Sem.run_bind, run_equal_bool hu]
      rfl
    · simp at h
  · rename_i a b
    cases h1; cases h2
    rw [Sem.run_bind, eqGuard_plain (by simp) (by simp)]
    simp only [Result.andThen_ok]
    cases op <;> simp only [strA, Option.some.injEq, reduceCtorEq] at h
    all_goals (subst h; exact ⟨_, by simp [binOp, Op.stringOp, toList_mk], .bool⟩)
  · simp at h

def fieldOf (T : List (Nat × TI)) (s f : Nat) : Option (Nat × TI) :=
  match lookT T s with
  | some i => match i.d with
    | .struct fs => match fs[f]? with
      | some (off, ft) => match lookT T ft with
        | some j => some (off, j)
        | none => none
      | none => none
    | _ => none
  | none => none

theorem fieldOf_spec {E : Env} {s f off : Nat} {j : TI} (h : fieldOf E.T s f = some (off, j)) :
    ∃ gs g, E.P.underlying s = some (.struct gs) ∧ gs[f]? = some g ∧ g.offset = off ∧ lookT E.T g.type = some j := by
  unfold fieldOf at h
  split at h <;> try simp at h
  rename_i i hi
  split at h <;> try simp at h
  rename_i fs hfs
  split at h <;> try simp at h
  rename_i o ft hf
  split at h <;> try simp at h
  rename_i j' hj
  obtain ⟨rfl, rfl⟩ := h
  obtain ⟨d, hu, hok⟩ := (Env.ti hi).u
  rw [hfs] at hok
  obtain ⟨gs, rfl, hgs⟩ := hok
  have : (gs.toList.map (fun f => (f.offset, f.type)))[f]? = some (o, ft) := by rw [hgs]; exact hf
  rw [List.getElem?_map] at this
  obtain ⟨g, hg, he⟩ := Option.map_eq_some_iff.1 this
  simp only [Prod.mk.injEq] at he
  refine ⟨gs, g, hu, by rw [← Array.getElem?_toList]; exact hg, he.1, by rw [he.2]; exact hj⟩

theorem addr_add_add (p : Addr) (h : p.spot = none) (i j : Nat) : (p.add i).add j = p.add (i + j) := by
  unfold Addr.add
  by_cases h1 : i = 0
  · subst h1; simp
  · by_cases h2 : j = 0
    · subst h2; simp [h1]
    · simp [h1, h2, Nat.add_assoc]

theorem addr_add_spot (p : Addr) (h : p.spot = none) (i : Nat) : (p.add i).spot = none := by
  unfold Addr.add
  split <;> simp [h]

theorem RelV.rp_drop {c : Cfg} {cs : List AV} {p : Addr} (h : RelV c (.rp cs) (.pointer (some p))) (k : Nat) : RelV c (.rp (cs.drop k)) (.pointer (some (p.add k))) := by
  cases h with
  | rp vs hs hf hr =>
    refine .rp (fun i => vs (k + i)) (addr_add_spot p hs k) (fun i hi => ?_) (fun i e he => ?_)
    · rw [addr_add_add p hs]
      exact hf _ (by rw [List.length_drop] at hi; omega)
    · rw [List.getElem?_drop] at he
      exact hr _ e he

theorem RelV.ptr_add {c : Cfg} {m j off : Nat} {p : Addr} (h : RelV c (.ptr m j off) (.pointer (some p))) (k : Nat) : RelV c (.ptr m j (off + k)) (.pointer (some (p.add k))) := by
  cases h with
  | ptr hb =>
    rename_i b
    have : (⟨b, off, none⟩ : Addr).add k = ⟨b, off + k, none⟩ := by
      unfold Addr.add
      split
      · rename_i h0; subst h0; rfl
      · rfl
    rw [this]
    exact .ptr hb

def addrAdd (k : Nat) : AV → Option AV
  | .ptr m j off => some (.ptr m j (off + k))
  | .rp cs => some (.rp (cs.drop k))
  | _ => none

theorem addrAdd_rel {c : Cfg} {k : Nat} {x y : AV} {v : Value} (h : addrAdd k x = some y) (hr : RelV c x v) : ∃ p, v = .pointer (some p) ∧ RelV c y (.pointer (some (p.add k))) := by
  cases x <;> simp only [addrAdd, Option.some.injEq, reduceCtorEq] at h
  · subst h
    cases hr with
    | ptr hb => exact ⟨_, rfl, RelV.ptr_add (.ptr hb) k⟩
  · subst h
    cases hr with
    | rp vs hs hf hr => exact ⟨_, rfl, RelV.rp_drop (.rp vs hs hf hr) k⟩

def ptrBase (n0 : Nat) : AV → Nat
  | .ptr m _ _ => m
  | _ => n0

/-- A load (L: what the activation has laid, from id n0 on). -/
def loadA (L : List AObj) (i : TI) : AV → Option AV
  | .rp cs => bif Nat.ble i.sz cs.length then varA i cs else none
  | .ptr _ j off => match L[j]? with
    | some (.cells cs) => bif Nat.ble (off + i.sz) cs.length then varA i (cs.drop off) else none
    | _ => none
  | _ => none

theorem load_cells {E : Env} {c : Cfg} {ty : Nat} {i : TI} {id off b : Nat} {cs : List AV} {av : AV} (ho : HR c) (hi : lookT E.T ty = some i) (hcs : c.H[id]? = some (.cells cs)) (hb : c.ι id = some b)
    (hle : off + i.sz ≤ cs.length) (h : varA i (cs.drop off) = some av) : ∃ r, (Instr.loadAt ty (.pointer (some ⟨b, off, none⟩))).run E.P c.w = .ok r c.w ∧ RelV c av r := by
  obtain ⟨vs, hr, hc⟩ := box_at (off := off) ho hcs hb
  obtain ⟨r, h1, h2⟩ := run_loadVar hi hr hc (by rw [List.length_drop]; omega) h
  exact ⟨r, by simpa [Instr.loadAt, Instr.sureAddr] using h1, h2⟩

theorem loadA_sound {E : Env} {c : Cfg} {n0 ty : Nat} {i : TI} {x av : AV} {v : Value} {H L : List AObj} (hH : c.H = H ++ L) (hn : H.length = n0) (ho : HR c) (hi : lookT E.T ty = some i) (h : loadA L i x = some av) (hr : RelV c x v)
    (hb : ptrBase n0 x = n0) :
    ∃ r, (Instr.loadAt ty v).run E.P c.w = .ok r c.w ∧ RelV c av r := by
  cases x <;> simp only [loadA, reduceCtorEq] at h
  · rename_i m j off
    simp only [ptrBase] at hb
    subst hb
    cases hr with
    | ptr hb =>
      rename_i b
      obtain ⟨o, ho1, ho2, ho3⟩ := hb
      split at h
      · rename_i cs hcs
        cases hb' : Nat.ble (off + i.sz) cs.length with
        | false => rw [hb'] at h; simp at h
        | true =>
          rw [hb'] at h
          simp only [cond_true] at h
          exact load_cells ho hi (by rw [hH]; exact app_get hn hcs) ho3 (Nat.le_of_ble_eq_true hb') h
      · simp at h
  · rename_i cs
    cases hr with
    | rp vs hs hf hr =>
      rename_i p
      cases hb' : Nat.ble i.sz cs.length with
      | false => rw [hb'] at h; simp at h
      | true =>
        rw [hb'] at h
        simp only [cond_true] at h
        have hle : i.sz ≤ cs.length := Nat.le_of_ble_eq_true hb'
        have hrl : RelL c cs ((List.range cs.length).map vs) := ⟨by simp, fun j a v ha hv => by
          rw [List.getElem?_map] at hv
          obtain ⟨j', hj, rfl⟩ := Option.map_eq_some_iff.1 hv
          have : j' = j := by
            rw [List.getElem?_range (List.getElem?_eq_some_iff.1 ha).1] at hj
            simpa using hj.symm
          subst this
          exact hr _ _ ha⟩
        have hca : CellsAt c.w p ((List.range cs.length).map vs) := fun j v hv => by
          rw [List.getElem?_map] at hv
          obtain ⟨j', hj, rfl⟩ := Option.map_eq_some_iff.1 hv
          have hlt : j < cs.length := by
            have := (List.getElem?_eq_some_iff.1 hj).1
            simpa using this
          have : j' = j := by
            rw [List.getElem?_range hlt] at hj
            simpa using hj.symm
          subst this
          exact (hf _ hlt).1
        obtain ⟨r, h1, h2⟩ := run_loadVar hi hrl hca hle h
        exact ⟨r, by simpa [Instr.loadAt, Instr.sureAddr] using h1, h2⟩

def convA (T : List (Nat × TI)) (dst : Nat) : AV → Option AV
  | .int _ n => match (lookT T dst).map TI.d with
    | some (.int k) => some (.int k (k.wrap n))
    | _ => none
  | .str s => match (lookT T dst).map TI.d with
    | some .str => some (.str s)
    | _ => none
  | _ => none

def lenA (T : List (Nat × TI)) (ty : Nat) (x : AV) : Option AV :=
  match (lookT T ty).map TI.d, x with
  | some .str, .str s => some (.int .i64 s.length)
  | some (.slice _), .sl _ _ xs => some (.int .i64 xs.length)
  | some (.slice _), .os _ _ _ _ len => some (.int .i64 len)
  | some (.array n _), _ => some (.int .i64 n)
  | _, _ => none

def fillA (place : Nat → Option (Nat × Nat)) (cells : List AV) : List (Nat × AV) → Option (List AV)
  | [] => some cells
  | (i, v) :: rest => match place i, cellsA v with
    | some (off, size), some cs => bif Nat.beq cs.length size && Nat.ble (off + cs.length) cells.length then fillA place (cells.take off ++ cs ++ cells.drop (off + cs.length)) rest else none
    | _, _ => none

def partA (j : TI) (cs : List AV) (off : Nat) : Option AV := bif j.d.agg then (bif Nat.ble (off + j.sz) cs.length then some (.agg ((cs.drop off).take j.sz)) else none) else cs[off]?

/-- The operations that leave memory and heap alone. -/
def valA (E : Env) (t : Slots) (L : List AObj) (op : Op) : Option AV :=
  match op with
  | .move x => evalO E.G t x
  | .assign x => evalO E.G t x
  | .pick c a b => match evalA E.G t c with
    | .bool x => match evalO E.G t a, evalO E.G t b with
      | some u, some v => pickO x u v
      | some u, none => match x with | true => some u | false => none
      | none, some v => match x with | true => none | false => some v
      | _, _ => none
    | _ => none
  | .load ty x => match lookT E.T ty with
    | some i => loadA L i (evalA E.G t x)
    | none => none
  | .fieldAddr s x f => match fieldOf E.T s f with
    | some (off, j) => bif Nat.beq j.sz 0 then none else addrAdd off (evalA E.G t x)
    | none => none
  | .field s x f => match fieldOf E.T s f, evalA E.G t x with
    | some (off, j), .agg cs => partA j cs off
    | _, _ => none
  | .extract x i => match evalA E.G t x with
    | .tup vs => vs[i]?
    | _ => none
  | .unOp .not _ x => match evalA E.G t x with
    | .bool b => some (.bool (!b))
    | _ => none
  | .unOp .neg _ x => match evalA E.G t x with
    | .int k m => some (.int k (k.wrap (0 - m)))
    | _ => none
  | .unOp .xor _ x => match evalA E.G t x with
    | .int k m => some (.int k (k.wrap (BitVec.ofInt k.bits (if k.signed then -1 else k.max) ^^^ BitVec.ofInt k.bits m).toNat))
    | _ => none
  | .binOp op ty x y _ => binA E.T op ty (evalA E.G t x) (evalA E.G t y)
  | .convert src dst x => match lookT E.T src with
    | some _ => convA E.T dst (evalA E.G t x)
    | none => none
  | .makeFunc (.func g) ⟨[]⟩ ⟨cs⟩ => some (.func g (evalL E.G t cs))
  | .nilCheck x => match evalA E.G t x with
    | .ptr m j off => some (.ptr m j off)
    | .rp cs => some (.rp cs)
    | .func g cs => some (.func g cs)
    | _ => none
  | .call { callee := .builtin .len, args := ⟨[x]⟩, argTypes := ⟨[ty]⟩ } => lenA E.T ty (evalA E.G t x)
  | _ => none

/-- The base of what is read: it must be the activation's own. -/
def baseN (E : Env) (n0 : Nat) (t : Slots) (op : Op) : Nat :=
  match op with
  | .load _ x => ptrBase n0 (evalA E.G t x)
  | _ => n0

end Go.Gp

/- The rule for operations that leave memory alone; elements, calls. -/
namespace Go.Gp
open Go.RowKit
set_option linter.unusedVariables false
set_option linter.unusedSimpArgs false

theorem len_sound {E : Env} {c : Cfg} {ty : Nat} {ty0 : TypeId} {x av : AV} {v : Value} (h : lenA E.T ty x = some av) (hr : RelV c x v) :
    ∃ r, (Builtin.len_ #[ty] ty0 #[v]).run E.P c.w = .ok r c.w ∧ RelV c av r := by
  unfold lenA at h
  split at h
  · rename_i s hl
    obtain ⟨i, hi, hd⟩ := Option.map_eq_some_iff.1 hl
    obtain ⟨d, hu, hok⟩ := (Env.ti hi).u
    rw [hd] at hok
    have hok' : d = .string := hok
    subst hok'
    cases hr
    injection h with h
    subst h
    refine ⟨_, ?_, .int⟩
    simp [Builtin.len_, run_underlying hu, goInt]
    show ((s.toArray.size : Nat) : Int) = _
    simp
  · rename_i e t z xs hl
    obtain ⟨i, hi, hd⟩ := Option.map_eq_some_iff.1 hl
    obtain ⟨d, hu, hok⟩ := (Env.ti hi).u
    rw [hd] at hok
    have hok' : d = .slice e := hok
    subst hok'
    cases hr with
    | sl vs hl' hc hz ht hf hr =>
      injection h with h
      subst h
      refine ⟨_, ?_, .int⟩
      simp [Builtin.len_, run_underlying hu, goInt]
      omega
  · rename_i e m j off z len hl
    obtain ⟨i, hi, hd⟩ := Option.map_eq_some_iff.1 hl
    obtain ⟨d, hu, hok⟩ := (Env.ti hi).u
    rw [hd] at hok
    have hok' : d = .slice e := hok
    subst hok'
    cases hr with
    | os hb hc =>
      injection h with h
      subst h
      refine ⟨_, ?_, .int⟩
      simp [Builtin.len_, run_underlying hu, goInt]
  · rename_i m e hl
    obtain ⟨i, hi, hd⟩ := Option.map_eq_some_iff.1 hl
    obtain ⟨d, hu, hok⟩ := (Env.ti hi).u
    rw [hd] at hok
    have hok' : d = .array m e := hok
    subst hok'
    injection h with h
    subst h
    refine ⟨_, ?_, .int⟩
    simp [Builtin.len_, run_underlying hu, goInt]
  · simp at h

theorem conv_sound {E : Env} {c : Cfg} {src dst : Nat} {i0 : TI} {x av : AV} {v : Value} (hs : lookT E.T src = some i0) (h : convA E.T dst x = some av) (hr : RelV c x v) :
    ∃ r, (convert src dst v).run E.P c.w = .ok r c.w ∧ RelV c av r := by
  obtain ⟨d0, hu0, _⟩ := (Env.ti hs).u
  unfold convA at h
  split at h
  · split at h
    · rename_i k hl
      obtain ⟨i, hi, hd⟩ := Option.map_eq_some_iff.1 hl
      obtain ⟨d, hu, hok⟩ := (Env.ti hi).u
      rw [hd] at hok
      have hok' : d = .int k := hok
      subst hok'
      cases hr
      injection h with h
      subst h
      refine ⟨_, ?_, .int⟩
      unfold convert
      simp only [Sem.run_bind, run_underlying hu0, run_underlying hu, Result.andThen_ok, Conv.intToInt, Sem.run_pure]
    · simp at h
  · split at h
    · rename_i hl
      obtain ⟨i, hi, hd⟩ := Option.map_eq_some_iff.1 hl
      obtain ⟨d, hu, hok⟩ := (Env.ti hi).u
      rw [hd] at hok
      have hok' : d = .string := hok
      subst hok'
      cases hr
      injection h with h
      subst h
      refine ⟨_, ?_, .str⟩
      unfold convert
      simp only [Sem.run_bind, run_underlying hu0, run_underlying hu, Result.andThen_ok, Sem.run_pure]
    · simp at h
  · simp at h

theorem part_sound {E : Env} {c : Cfg} {ft : Nat} {j : TI} {cs : List AV} {ws : List Value} {off : Nat} {av : AV} (hj : lookT E.T ft = some j) (hr : RelL c cs ws) (h : partA j cs off = some av) :
    ∃ r, (part ft ws.toArray off).run E.P c.w = .ok r c.w ∧ RelV c av r := by
  unfold partA at h
  unfold part
  simp only [Sem.run_bind, underlying_agg hj, Result.andThen_ok]
  cases hg : j.d.agg with
  | true =>
    rw [hg] at h
    simp only [cond_true] at h
    cases hb : Nat.ble (off + j.sz) cs.length with
    | false => rw [hb] at h; simp at h
    | true =>
      rw [hb] at h
      simp only [cond_true, Option.some.injEq] at h
      subst h
      simp only [if_true, Sem.run_bind, run_sizeOf hj, Result.andThen_ok, Sem.run_pure]
      refine ⟨_, rfl, ?_⟩
      have h3 := (hr.drop off).take j.sz
      have e : ws.toArray.extract off (off + j.sz) = ((ws.drop off).take j.sz).toArray := by
        simp [List.extract_toArray, List.take_drop, Nat.add_comm]
      rw [e]
      exact .agg _ h3.1 h3.2
  | false =>
    rw [hg] at h
    simp only [cond_false] at h
    obtain ⟨v, hv, hrv⟩ := hr.get h
    simp only [Bool.false_eq_true, if_false]
    refine ⟨v, ?_, hrv⟩
    simp [hv]

theorem valA_sound {E : Env} {c : Cfg} {n n0 : Nat} {t : Slots} {a : Act} {o : Oper} {av : AV} {H L : List AObj} (hH : c.H = H ++ L) (hn : H.length = n0) (ho : Ok E.G c) (s : SR c n t a) (h : valA E t L o.op = some av)
    (hb : baseN E n0 t o.op = n0) :
    ∃ v, (execOp a.eval o).run E.P c.w = .ok (.value v) c.w ∧ RelV c av v := by
  have ev := fun x => eval_rel ho s x
  unfold valA at h
  split at h
  · rename_i x hop
    have h' := evalO_eq h
    exact ⟨a.eval x, by simp [execOp, hop], by rw [← h']; exact ev x⟩
  · rename_i x hop
    have h' := evalO_eq h
    exact ⟨a.eval x, by simp [execOp, hop], by rw [← h']; exact ev x⟩
  · rename_i x y z hop
    split at h
    · rename_i b hb
      have hc := ev x
      rw [hb] at hc
      have hv := hc.bool_inv
      have hx : (execOp a.eval o).run E.P c.w = .ok (.value (if b = true then a.eval y else a.eval z)) c.w := by simp [execOp, hop, hv, asBool]
      split at h
      · rename_i p q hp hq
        have hp := evalO_eq hp
        have hq := evalO_eq hq
        refine ⟨_, hx, ?_⟩
        rw [← pickO_eq h]
        exact pickA_rel (b := b) (by rw [← hp]; exact ev y) (by rw [← hq]; exact ev z)
      · rename_i p hp hq
        have hp := evalO_eq hp
        cases b with
        | true =>
          simp only [Option.some.injEq] at h
          subst h
          refine ⟨_, hx, ?_⟩
          rw [if_pos rfl, ← hp]
          exact ev y
        | false => simp at h
      · rename_i p hp hq
        have hq := evalO_eq hq
        cases b with
        | true => simp at h
        | false =>
          simp only [Option.some.injEq] at h
          subst h
          refine ⟨_, hx, ?_⟩
          rw [if_neg (by simp), ← hq]
          exact ev z
      · simp at h
    · simp at h
  · rename_i ty x hop
    split at h
    · rename_i i hi
      rw [hop] at hb
      obtain ⟨r, h1, h2⟩ := loadA_sound hH hn ho.hr hi h (ev x) (by simpa only [baseN] using hb)
      exact ⟨r, by simp [execOp, hop, h1], h2⟩
    · simp at h
  · rename_i ss x f hop
    split at h
    · rename_i off j hf
      cases hz : Nat.beq j.sz 0 with
      | true => rw [hz] at h; simp at h
      | false =>
        rw [hz] at h
        simp only [cond_false] at h
        obtain ⟨gs, g, hu, hg, hoff, hj⟩ := fieldOf_spec hf
        obtain ⟨p, hp, hr⟩ := addrAdd_rel h (ev x)
        refine ⟨_, ?_, hr⟩
        have hne : j.sz ≠ 0 := fun e => by rw [e] at hz; simp at hz
        simp [execOp, hop, hp, Instr.fieldAt, run_underlying hu, hg, Instr.sureAddr, fieldPlace, run_sizeOf hj, hne, hoff]
    · simp at h
  · rename_i ss x f hop
    split at h
    · rename_i off j cs hf hx
      obtain ⟨gs, g, hu, hg, hoff, hj⟩ := fieldOf_spec hf
      have hr := ev x
      rw [hx] at hr
      generalize hv : a.eval x = v at hr
      cases hr with
      | agg ws hl hr =>
        obtain ⟨r, h1, h2⟩ := part_sound hj ⟨hl, hr⟩ h
        refine ⟨r, ?_, h2⟩
        simp [execOp, hop, hv, Instr.field, run_underlying hu, hg, asAgg, hoff, h1]
    · simp at h
  · rename_i x i hop
    split at h
    · rename_i vs hx
      have hr := ev x
      rw [hx] at hr
      generalize hv : a.eval x = v at hr
      cases hr with
      | tup ws hl hr =>
        obtain ⟨u, hu, hru⟩ := RelL.get (c := c) ⟨hl, hr⟩ h
        refine ⟨u, ?_, hru⟩
        simp [execOp, hop, hv, Instr.extract, hu]
    · simp at h
  · rename_i ty x hop
    split at h
    · rename_i b hb
      have hc := ev x
      rw [hb] at hc
      injection h with h; subst h
      exact ⟨_, by simp [execOp, hop, hc.bool_inv, Op.unary], .bool⟩
    · simp at h
  · rename_i ty x hop
    split at h
    · rename_i k m hb
      have hc := ev x
      rw [hb] at hc
      generalize hv : a.eval x = v at hc
      cases hc
      injection h with h; subst h
      exact ⟨_, by simp only [execOp, hop, hv, Op.unary, Op.intArith, Sem.run_bind, Sem.run_pure, Result.andThen_ok], .int⟩
    · simp at h
  · rename_i ty x hop
    split at h
    · rename_i k m hb
      have hc := ev x
      rw [hb] at hc
      generalize hv : a.eval x = v at hc
      cases hc
      injection h with h; subst h
      exact ⟨_, by simp [execOp, hop, hv, Op.unary, Op.intBits], .int⟩
    · simp at h
  · rename_i op ty x y yt hop
    obtain ⟨r, h1, h2⟩ := binA_sound (ox := x) (oy := y) h (ev x) (ev y)
    refine ⟨r, ?_, h2⟩
    simp only [execOp, hop, Sem.run_bind] at h1 ⊢
    rw [h1]
    rfl
  · rename_i src dst x hop
    split at h
    · rename_i i0 hs
      obtain ⟨r, h1, h2⟩ := conv_sound hs h (ev x)
      exact ⟨r, by simp [execOp, hop, h1], h2⟩
    · simp at h
  · rename_i g cs hop
    injection h with h; subst h
    have hr := evalL_rel ho s cs
    refine ⟨_, ?_, .func (cs.map a.eval) hr.1 hr.2⟩
    simp [execOp, hop, Instr.makeFunc]
  · rename_i x hop
    split at h
    · rename_i m j off hx
      have hr := ev x
      rw [hx] at hr
      injection h with h; subst h
      generalize hv : a.eval x = v at hr
      cases hr with
      | ptr hb => exact ⟨_, by simp [execOp, hop, hv], .ptr hb⟩
    · rename_i cs hx
      have hr := ev x
      rw [hx] at hr
      injection h with h; subst h
      generalize hv : a.eval x = v at hr
      cases hr with
      | rp vs hs hf hr => exact ⟨_, by simp [execOp, hop, hv], .rp vs hs hf hr⟩
    · rename_i g cs hx
      have hr := ev x
      rw [hx] at hr
      injection h with h; subst h
      generalize hv : a.eval x = v at hr
      cases hr with
      | func ws hl hr => exact ⟨_, by simp [execOp, hop, hv], .func ws hl hr⟩
    · simp at h
  · rename_i x ty hop
    obtain ⟨r, h1, h2⟩ := len_sound (ty0 := o.type) h (ev x)
    refine ⟨r, ?_, h2⟩
    simp [execOp, hop, resolve, invoke, builtin, h1]
  · simp at h

theorem valA_notDefer {E : Env} {t : Slots} {L : List AObj} {o : Oper} {av : AV} (h : valA E t L o.op = some av) : notDefer o := by
  intro cc e
  rw [e] at h
  simp [valA] at h

section rules
variable {E : Env} {ro : Option Nat} {n : Nat} {K : Kont} {t : Slots} {H : List AObj} {ops : Array Oper} {o : Oper} {rest : List Oper}

/-- AN OPERATION THAT LEAVES MEMORY ALONE. -/
theorem WpOps.op {d : Nat} {L : List AObj} (av : AV) (hw : wantedA ops t o = some true) (hd : o.dst = some d) (hdn : Nat.blt d n = true) (hv : valA E t L o.op = some av) (hb : baseN E H.length t o.op = H.length)
    (hk : WpOps E ro n ops rest K ((d, av) :: t) (H ++ L)) : WpOps E ro n ops (o :: rest) K t (H ++ L) :=
  .value hw hd hdn (valA_notDefer hv) (fun c a hH ho s => by
    obtain ⟨v, h1, h2⟩ := valA_sound hH rfl ho s hv hb
    exact ⟨v, c.ι, c.w, h1, by rw [← hH]; exact Ext.refl c, by rw [← hH]; exact ho.hr, by rw [← hH]; exact h2⟩) hk

/-- Where a guard hangs on a bool that isn't known: both. -/
def guardSlot (ops : Array Oper) (o : Oper) : Option Nat := match o.guard with
  | none => none
  | some (j, _) => (ops[j]?).bind (·.dst)

/-- A mark in the slots: this one has just been parted. -/
def headNe : Slots → Nat → Bool
  | (j, _) :: _, d => !Nat.beq j (d + 1000000)
  | [], _ => true

theorem SR.unk_cons {c : Cfg} {n : Nat} {t : Slots} {a : Act} (s : SR c n t a) (d : Nat) : SR c n ((d, .unk) :: t) a := by
  refine ⟨s.size, fun i => ?_⟩
  unfold look
  cases hb : Nat.beq d i with
  | true => simp only [cond_true]; exact .unk
  | false => simp only [cond_false]; exact s.rel i

theorem WpOps.forget {l : List Oper} {d : Nat} (h : WpOps E ro n ops l K ((d, .unk) :: t) H) : WpOps E ro n ops l K t H :=
  ⟨fun cd c0 c a e1 e2 e3 e4 e5 => h.out cd c0 c a e1 e2 e3 (e4.unk_cons d) e5⟩

theorem WpOps.gsplit {d : Nat} (b : Bool) (hd : guardSlot ops o = some d) (hh : headNe t d = true) (hb : look t d = .bool b)
    (h1 : b = true → WpOps E ro n ops (o :: rest) K ((d + 1000000, .unk) :: (d, .bool true) :: t) H) (h2 : b = false → WpOps E ro n ops (o :: rest) K ((d + 1000000, .unk) :: (d, .bool false) :: t) H) :
    WpOps E ro n ops (o :: rest) K t H := .split d b hb (fun h => .forget (h1 h)) (fun h => .forget (h2 h))
end rules

end Go.Gp

/- Boxes, calls. -/
namespace Go.Gp
open Go.RowKit
set_option linter.unusedVariables false
set_option linter.unusedSimpArgs false

theorem heap_alloc_size (w : World) (o : Obj) : (w.alloc o).heap.size = w.heap.size + 1 := by simp
theorem heap_alloc_lt (w : World) (o : Obj) {k : Nat} (h : k < w.heap.size) : (w.alloc o).heap[k]? = w.heap[k]? := Below.heap_alloc w o k h
theorem heap_alloc_eq (w : World) (o : Obj) : (w.alloc o).heap[w.heap.size]? = some o := by
  show (w.heap.push o)[w.heap.size]? = _
  simp
theorem cell?_alloc_lt (w : World) (o : Obj) {p : Addr} {v : Value} (h : w.cell? p = some v) : (w.alloc o).cell? p = some v := by
  have hlt := cell_lt h
  unfold World.cell? at h ⊢
  rw [heap_alloc_lt w o hlt]
  exact h

/-- A new block that nobody writes. -/
def Cfg.push (c : Cfg) (ob : Obj) : Cfg := { c with w := c.w.alloc ob }
/-- A new block under a new id. -/
def Cfg.newObj (c : Cfg) (o : AObj) (ob : Obj) : Cfg := { ι := fun i => if i = c.H.length then some c.w.heap.size else c.ι i, H := c.H ++ [o], w := c.w.alloc ob }

theorem Ext.push (c : Cfg) (ob : Obj) (h : HR c) : Ext c (c.push ob) where
  fz := fun p v _ hf => ⟨cell?_alloc_lt _ _ hf.1, hf.2⟩
  bx := fun _ _ h => h
  tl := fun id n z hn => .inr ⟨n, hn, Nat.le_refl _, fun _ => ⟨rfl, fun b arr e hi ha => ⟨arr, (heap_alloc_lt _ _ (block_lt ha)).trans ha, rfl⟩⟩⟩
  dd := fun _ h => h
  sz := fun _ _ _ _ ⟨arr, e, fr, h1, h2⟩ => ⟨arr, e, fr, (heap_alloc_lt _ _ (Array.getElem?_eq_some_iff.1 h1).1).trans h1, h2⟩
  size := by show _ ≤ (c.w.alloc ob).heap.size; rw [heap_alloc_size]; omega
  os := rfl
  tape := rfl
  output := rfl
  hlen := Nat.le_refl _
  outer := fun b hb _ => heap_alloc_lt _ _ hb
  nw := fun id b o ho hl hi _ => ⟨id, o, ho, hl, hi⟩

theorem HR.push {c : Cfg} (h : HR c) (ob : Obj) : HR (c.push ob) where
  dom := h.dom
  ex := h.ex
  obj := fun id b o ho hi hl => (h.obj id b o ho hi hl).mono (Ext.push c ob h).toExt0 (heap_alloc_lt _ _ (h.bound id b hi))
  inj := h.inj
  bound := fun id b hi => by show b < (c.w.alloc ob).heap.size; rw [heap_alloc_size]; have := h.bound id b hi; omega

theorem newObj_get {c : Cfg} {o : AObj} {ob : Obj} {id : Nat} {x : AObj} : (c.newObj o ob).H[id]? = some x ↔ c.H[id]? = some x ∨ (id = c.H.length ∧ x = o) := by
  show (c.H ++ [o])[id]? = some x ↔ _
  rcases Nat.lt_trichotomy id c.H.length with h | h | h
  · rw [List.getElem?_append_left h]
    constructor
    · exact .inl
    · rintro (h1 | ⟨h1, _⟩)
      · exact h1
      · omega
  · subst h
    rw [List.getElem?_append_right (Nat.le_refl _), Nat.sub_self]
    simp [eq_comm]
  · rw [List.getElem?_append_right (by omega), List.getElem?_eq_none (by simp; omega)]
    constructor
    · intro h'; cases h'
    · rintro (h1 | ⟨h1, _⟩)
      · rw [List.getElem?_eq_none (by omega)] at h1; cases h1
      · omega

theorem newObj_ι {c : Cfg} {o : AObj} {ob : Obj} {id b : Nat} (h : HR c) : (c.newObj o ob).ι id = some b ↔ c.ι id = some b ∨ (id = c.H.length ∧ b = c.w.heap.size) := by
  show (if id = c.H.length then some c.w.heap.size else c.ι id) = some b ↔ _
  split
  · rename_i hid
    constructor
    · intro h'; exact .inr ⟨hid, by simpa using h'.symm⟩
    · rintro (h1 | ⟨_, h1⟩)
      · have := h.dom _ _ h1; omega
      · rw [h1]
  · rename_i hid
    constructor
    · exact .inl
    · rintro (h1 | ⟨h1, _⟩)
      · exact h1
      · exact absurd h1 hid

theorem newObj_ι_old {c : Cfg} {o : AObj} {ob : Obj} {id : Nat} (h : id < c.H.length) : (c.newObj o ob).ι id = c.ι id := by
  show (if id = c.H.length then some c.w.heap.size else c.ι id) = _
  rw [if_neg (by omega)]

theorem get_lt {H : List AObj} {id : Nat} {o : AObj} (h : H[id]? = some o) : id < H.length := (List.getElem?_eq_some_iff.1 h).1

theorem Ext.newObj (c : Cfg) (o : AObj) (ob : Obj) (h : HR c) : Ext c (c.newObj o ob) where
  fz := fun p v hp hf => by
    refine ⟨cell?_alloc_lt _ _ hf.1, ?_⟩
    rintro ⟨id, x, h1, h2, h3⟩
    rcases newObj_get.1 h1 with h1 | ⟨h1, _⟩
    · rcases (newObj_ι h).1 h2 with h2 | ⟨h2, _⟩
      · exact hf.2 ⟨id, x, h1, h2, h3⟩
      · have := get_lt h1; omega
    · rcases (newObj_ι h).1 h2 with h2 | ⟨_, h2⟩
      · have := h.dom _ _ h2; omega
      · omega
  bx := fun id b ⟨x, h1, h2, h3⟩ => ⟨x, newObj_get.2 (.inl h1), h2, (newObj_ι h).2 (.inl h3)⟩
  tl := fun id n z hn => .inr ⟨n, newObj_get.2 (.inl hn), Nat.le_refl _, fun _ => ⟨newObj_ι_old (get_lt hn), fun b arr e hi ha => ⟨arr, (heap_alloc_lt _ _ (block_lt ha)).trans ha, rfl⟩⟩⟩
  dd := fun id ⟨x, h1, h2⟩ => ⟨x, newObj_get.2 (.inl h1), h2⟩
  sz := fun _ _ _ _ ⟨arr, e, fr, h1, h2⟩ => ⟨arr, e, fr, (heap_alloc_lt _ _ (Array.getElem?_eq_some_iff.1 h1).1).trans h1, h2⟩
  size := by show _ ≤ (c.w.alloc ob).heap.size; rw [heap_alloc_size]; omega
  os := rfl
  tape := rfl
  output := rfl
  hlen := by show _ ≤ (c.H ++ [o]).length; simp
  outer := fun b hb _ => heap_alloc_lt _ _ hb
  nw := fun id b x hx hl hi hb => by
    rcases (newObj_ι h).1 hi with hi | ⟨_, hi⟩
    · rcases newObj_get.1 hx with hx | ⟨hx, _⟩
      · exact ⟨_, x, hx, hl, hi⟩
      · have := h.dom _ _ hi; omega
    · omega

theorem HR.newObj {c : Cfg} {o : AObj} {ob : Obj} (h : HR c) (hob : objRel (c.newObj o ob) c.w.heap.size o) : HR (c.newObj o ob) where
  dom := fun id b hi => by
    show id < (c.H ++ [o]).length
    rw [List.length_append, List.length_singleton]
    rcases (newObj_ι h).1 hi with hi | ⟨hi, _⟩
    · have := h.dom _ _ hi; omega
    · omega
  ex := fun id x hx hb hl => by
    rcases newObj_get.1 hx with hx | ⟨hx, _⟩
    · obtain ⟨b, hb⟩ := h.ex id x hx hb hl
      exact ⟨b, (newObj_ι h).2 (.inl hb)⟩
    · exact ⟨c.w.heap.size, (newObj_ι h).2 (.inr ⟨hx, rfl⟩)⟩
  obj := fun id b x hx hi hl => by
    rcases newObj_get.1 hx with hx | ⟨hx, rfl⟩
    · rcases (newObj_ι h).1 hi with hi | ⟨hi, _⟩
      · exact (h.obj id b x hx hi hl).mono (Ext.newObj c o ob h).toExt0 (heap_alloc_lt _ _ (h.bound id b hi))
      · have := get_lt hx; omega
    · rcases (newObj_ι h).1 hi with hi | ⟨_, rfl⟩
      · have := h.dom _ _ hi; omega
      · exact hob
  inj := fun i j b x y hx hy lx ly hi hj => by
    rcases (newObj_ι h).1 hi with hi | ⟨hi, hi'⟩
    · rcases (newObj_ι h).1 hj with hj | ⟨hj, hj'⟩
      · rcases newObj_get.1 hx with hx | ⟨hx, _⟩
        · rcases newObj_get.1 hy with hy | ⟨hy, _⟩
          · exact h.inj i j b x y hx hy lx ly hi hj
          · have := h.dom _ _ hj; omega
        · have := h.dom _ _ hi; omega
      · have := h.bound _ _ hi; omega
    · rcases (newObj_ι h).1 hj with hj | ⟨hj, _⟩
      · have := h.bound _ _ hj; omega
      · omega
  bound := fun id b hi => by
    show b < (c.w.alloc ob).heap.size
    rw [heap_alloc_size]
    rcases (newObj_ι h).1 hi with hi | ⟨_, hi⟩
    · have := h.bound _ _ hi; omega
    · omega

theorem objRel_new {c : Cfg} (h : HR c) {cs : List AV} {vs : List Value} (hr : RelL c cs vs) (e : TypeId) : objRel (c.newObj (.cells cs) (.cells vs.toArray e)) c.w.heap.size (.cells cs) := by
  refine ⟨vs.toArray, e, heap_alloc_eq _ _, by have := hr.1; simp; omega, fun i a ha => ?_⟩
  obtain ⟨v, hv, hrv⟩ := hr.get ha
  exact ⟨v, by simpa using hv, hrv.mono (Ext.newObj c _ _ h).toExt0⟩

theorem box_new {c : Cfg} (h : HR c) (cs : List AV) (ob : Obj) {m j : Nat} (hm : m + j = c.H.length) : RelV (c.newObj (.cells cs) ob) (.ptr m j 0) (.pointer (some ⟨c.w.heap.size, 0, none⟩)) :=
  .ptr ⟨.cells cs, newObj_get.2 (.inr ⟨hm, rfl⟩), rfl, (newObj_ι h).2 (.inr ⟨hm, rfl⟩)⟩

theorem run_newRow {P : Program} {w : World} {e : TypeId} {cs : Array Value} : (newRow e cs).run P w = .ok ⟨w.heap.size, 0, none⟩ (w.alloc (.cells cs e)) := by
  simp [newRow, newObj, Sem.run]

section rules
variable {E : Env} {ro : Option Nat} {n : Nat} {K : Kont} {t : Slots} {H L : List AObj} {ops : Array Oper} {o : Oper} {rest : List Oper}

/-- A variable in memory, from a value. -/
theorem WpOps.box {d ty : Nat} {x : Operand} (cs : List AV) (hw : wantedA ops t o = some true) (hd : o.dst = some d) (hdn : Nat.blt d n = true) (hop : o.op = .box ty x) (hc : cellsA (evalA E.G t x) = some cs)
    (hk : WpOps E ro n ops rest K ((d, .ptr H.length L.length 0) :: t) (H ++ (L ++ [.cells cs]))) : WpOps E ro n ops (o :: rest) K t (H ++ L) :=
  .value hw hd hdn (fun cc e => by rw [hop] at e; cases e) (fun c a hH ho s => by
    have hr := cellsA_rel (eval_rel ho s x) hc
    have h1 := objRel_new ho.hr hr ty
    have h2 := Ext.newObj c (.cells cs) (.cells (a.eval x).cells ty) ho.hr
    have h3 : HR (c.newObj (.cells cs) (.cells (a.eval x).cells ty)) := HR.newObj ho.hr (by simpa using h1)
    have h4 := box_new ho.hr cs (.cells (a.eval x).cells ty) (m := H.length) (j := L.length) (by rw [hH]; simp)
    have h5 : c.H ++ [.cells cs] = H ++ (L ++ [.cells cs]) := by rw [hH]; simp
    unfold Cfg.newObj at h2 h3 h4
    rw [h5] at h2 h3 h4
    refine ⟨.pointer (some ⟨c.w.heap.size, 0, none⟩), _, _, ?_, h2, h3, h4⟩
    simp [execOp, hop, Instr.box, newVar, run_newRow]) hk

def zeroA (i : TI) : Option (List AV) := cellsA (constA i.zero)

/-- A variable in memory, zero. -/
theorem WpOps.alloc {d ty : Nat} {i : TI} (cs : List AV) (hw : wantedA ops t o = some true) (hd : o.dst = some d) (hdn : Nat.blt d n = true) (hop : o.op = .alloc ty) (hi : lookT E.T ty = some i) (hc : zeroA i = some cs)
    (hk : WpOps E ro n ops rest K ((d, .ptr H.length L.length 0) :: t) (H ++ (L ++ [.cells cs]))) : WpOps E ro n ops (o :: rest) K t (H ++ L) :=
  .value hw hd hdn (fun cc e => by rw [hop] at e; cases e) (fun c a hH ho s => by
    have hr := cellsA_rel (constA_rel c i.zero) hc
    have h1 := objRel_new ho.hr hr ty
    have h2 := Ext.newObj c (.cells cs) (.cells i.zero.cells ty) ho.hr
    have h3 : HR (c.newObj (.cells cs) (.cells i.zero.cells ty)) := HR.newObj ho.hr (by simpa using h1)
    have h4 := box_new ho.hr cs (.cells i.zero.cells ty) (m := H.length) (j := L.length) (by rw [hH]; simp)
    have h5 : c.H ++ [.cells cs] = H ++ (L ++ [.cells cs]) := by rw [hH]; simp
    unfold Cfg.newObj at h2 h3 h4
    rw [h5] at h2 h3 h4
    refine ⟨.pointer (some ⟨c.w.heap.size, 0, none⟩), _, _, ?_, h2, h3, h4⟩
    simp [execOp, hop, Instr.alloc, run_zeroValue hi, newVar, run_newRow]) hk

/-- A CALL. -/
theorem WpOps.call {d g : Nat} {caps : List AV} {f : Operand} {xs : List Operand} {ats : Array TypeId} {R : AEnd → List AObj → Prop}
    (hw : wantedA ops t o = some true) (hd : o.dst = some d) (hdn : Nat.blt d n = true) (hop : o.op = .call { callee := .value f, args := ⟨xs⟩, argTypes := ats }) (hf : evalA E.G t f = .func g caps)
    (hc : CallsA E g (evalL E.G t xs ++ caps) H R)
    (hk : ∀ x H', R x H' → match x with | .ret r => WpOps E ro n ops rest K ((d, r) :: t) H' | .panic v => K (.panic v) t H') : WpOps E ro n ops (o :: rest) K t H := by
  refine ⟨?_⟩
  intro cd c0 c a e1 e2 e3 e4 e5
  have hnd : notDefer o := fun cc e => by rw [hop] at e; cases e
  have hfr := eval_rel e3 e4 f
  rw [hf] at hfr
  generalize hv : a.eval f = v at hfr
  cases hfr with
  | func ws hl hr =>
    have hargs := (evalL_rel e3 e4 xs).append (bs := caps) (us := ws) ⟨hl, hr⟩
    have hcall := hc.out c _ e2 e3 hargs
    have hrun : (execOp a.eval o).run E.P c.w = (callFunc g (xs.map a.eval ++ ws).toArray).run E.P c.w := by
      simp [execOp, hop, resolve, hv, Deferred.ofValue, invoke]
    refine wpListIn_of (wanted_eq e4 hw) hnd ?_
    rw [hrun]
    revert hcall
    cases (callFunc g (xs.map a.eval ++ ws).toArray).run E.P c.w with
    | halt x w => intro h; exact h.elim
    | ok nx w =>
      cases nx <;> intro hcall <;> try exact hcall.elim
      case value v' =>
        obtain ⟨ι', H', x, a1, a2, a3, a4⟩ := hcall
        rw [Oper.uponIn_value, hd]
        cases x with
        | panic v => exact a3.elim
        | ret r => exact (hk _ _ a4).out cd c0 ⟨ι', H', w⟩ _ (e1.trans a1) rfl a2 ((e4.mono a1).put hdn a3) (e5.mono a1 rfl)
      case enter f' args' =>
        rw [Oper.uponIn_enter]
        refine ⟨fun h => (by rw [Fc_depth] at h; simp at h), ?_⟩
        rw [Fc_calls]
        refine Calls.mono hcall ?_
        rintro e w' ⟨ι', H', x, a1, a2, a3, a4⟩
        cases e with
        | returned v' =>
          cases x with
          | panic v => exact a3.elim
          | ret r =>
            show wpListIn _ _ _ _ _ _ (a.put o.dst v') w'
            rw [hd]
            exact (hk _ _ a4).out cd c0 ⟨ι', H', w'⟩ _ (e1.trans a1) rfl a2 ((e4.mono a1).put hdn a3) (e5.mono a1 rfl)
        | panicked chain =>
          cases x with
          | ret r => exact a3.elim
          | panic v =>
            have := hk _ _ a4
            exact ⟨ι', H', t, .panic v, e1.trans a1, a2, e4.mono a1, e5.mono a1 rfl, a3, this⟩
        | outgrown => cases x <;> exact a3.elim
end rules

end Go.Gp
