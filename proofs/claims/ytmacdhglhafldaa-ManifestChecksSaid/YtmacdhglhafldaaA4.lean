/- Operations over abstract values: those that leave memory alone; guards; the rules' common step. -/
import Derived.Test.YtmacdhglhafldaaA3
namespace Go.Gp
open Go.RowKit
set_option linter.unusedVariables false
set_option linter.unusedSimpArgs false

/-! ### Guards -/
def wantedA (ops : Array Oper) (t : Slots) (o : Oper) : Option Bool :=
  match o.guard with
  | none => some true
  | some (j, want) => match (ops[j]?).bind (·.dst) with
    | none => some false
    | some d => match look t d with
      | .bool b => some (b == want)
      | .tup [] => some false
      | _ => none

theorem RelV.undef_inv {c : Cfg} {v : Value} (h : RelV c (.tup []) v) : v = undef := by
  cases h with
  | tup ws hl hr =>
    have : ws = [] := List.length_eq_zero_iff.1 hl.symm
    subst this
    rfl

theorem wanted_eq {c : Cfg} {n : Nat} {t : Slots} {a : Act} {ops : Array Oper} {o : Oper} {b : Bool} (s : SR c n t a) (h : wantedA ops t o = some b) : Region.wanted o (yielded ops a.tmps) = b := by
  unfold wantedA at h
  unfold Region.wanted
  split at h
  · rename_i hg
    rw [hg]
    simpa using h
  · rename_i j want hg
    rw [hg]
    simp only [yielded]
    split at h
    · rename_i hd
      rw [hd]
      simp at h ⊢
      exact h
    · rename_i d hd
      rw [hd]
      simp only [Option.bind_some]
      have hr := s.rel d
      split at h
      · rename_i x hx
        rw [hx] at hr
        have hv := hr.bool_inv
        have : a.tmps[d]? = some (.bool x) := by
          rw [Array.getD_eq_getD_getElem?] at hv
          cases hq : a.tmps[d]? with
          | none => rw [hq] at hv; simp [undef] at hv
          | some u => rw [hq] at hv; simp at hv; rw [hv]
        rw [this]
        simp at h ⊢
        exact h
      · rename_i hx
        rw [hx] at hr
        have hv := hr.undef_inv
        have : ∀ x, a.tmps[d]? ≠ some (.bool x) := by
          intro x hq
          rw [Array.getD_eq_getD_getElem?, hq] at hv
          simp [undef] at hv
        simp only [Option.some.injEq] at h
        subst h
        cases hq : a.tmps[d]? with
        | none => rfl
        | some u =>
          cases u <;> first | rfl | exact absurd hq (this _)
      · simp at h

/-! ### The common step -/
def notDefer (o : Oper) : Prop := ∀ c, o.op ≠ .defer c

theorem wpListIn_of {ro : Option Nat} {P : Program} {ops : Array Oper} {Q : Exit → Act → World → Prop} {a : Act} {w : World} {o : Oper} {rest : List Oper}
    (hw : Region.wanted o (yielded ops a.tmps) = true) (hnd : notDefer o)
    (h : o.uponIn (Fc ro) 0 P a (wpListIn (Fc ro) 0 P ops Q rest) Q ((execOp a.eval o).run P w)) : wpListIn (Fc ro) 0 P ops Q (o :: rest) a w := by
  simp only [wpListIn, hw, if_true]
  refine ⟨fun f _ => Fc_fn ro f, ?_⟩
  rw [Oper.semAt_eq _ _ _ hnd]
  exact h

section steps
variable {E : Env} {ro : Option Nat} {n : Nat} {K : Kont} {t : Slots} {H H1 : List AObj} {ops : Array Oper} {o : Oper} {rest : List Oper}

/-- An operation that yields a value, whatever it does to memory. -/
theorem WpOps.value {d : Nat} {av : AV} (hw : wantedA ops t o = some true) (hd : o.dst = some d) (hdn : Nat.blt d n = true) (hnd : notDefer o)
    (h : ∀ (c : Cfg) (a : Act), c.H = H → Ok E.G c → SR c n t a → ∃ v ι' w', (execOp a.eval o).run E.P c.w = .ok (.value v) w' ∧ Ext c ⟨ι', H1, w'⟩ ∧ HR ⟨ι', H1, w'⟩ ∧ RelV ⟨ι', H1, w'⟩ av v)
    (hk : WpOps E ro n ops rest K ((d, av) :: t) H1) : WpOps E ro n ops (o :: rest) K t H := by
  refine ⟨?_⟩
  intro cd c0 c a e1 e2 e3 e4 e5
  obtain ⟨v, ι', w', hr, hx, hh, hv⟩ := h c a e2 e3 e4
  refine wpListIn_of (wanted_eq e4 hw) hnd ?_
  rw [hr, Oper.uponIn_value, hd]
  exact hk.out cd c0 ⟨ι', H1, w'⟩ _ (e1.trans hx) rfl (e3.step hx hh) ((e4.mono hx).put hdn hv) (e5.mono hx rfl)

/-- An operation that yields nothing. -/
theorem WpOps.unit (hw : wantedA ops t o = some true) (hd : o.dst = none) (hnd : notDefer o)
    (h : ∀ (c : Cfg) (a : Act), c.H = H → Ok E.G c → SR c n t a → ∃ ι' w', (execOp a.eval o).run E.P c.w = .ok .skip w' ∧ Ext c ⟨ι', H1, w'⟩ ∧ HR ⟨ι', H1, w'⟩)
    (hk : WpOps E ro n ops rest K t H1) : WpOps E ro n ops (o :: rest) K t H := by
  refine ⟨?_⟩
  intro cd c0 c a e1 e2 e3 e4 e5
  obtain ⟨ι', w', hr, hx, hh⟩ := h c a e2 e3 e4
  refine wpListIn_of (wanted_eq e4 hw) hnd ?_
  rw [hr, Oper.uponIn_skip, hd]
  exact hk.out cd c0 ⟨ι', H1, w'⟩ _ (e1.trans hx) rfl (e3.step hx hh) (e4.mono hx) (e5.mono hx rfl)

/-- An operation that its guard leaves out. -/
theorem WpOps.skip {d : Nat} (hw : wantedA ops t o = some false) (hd : o.dst = some d) (hdn : Nat.blt d n = true)
    (hk : WpOps E ro n ops rest K ((d, undefA) :: t) H) : WpOps E ro n ops (o :: rest) K t H := by
  refine ⟨?_⟩
  intro cd c0 c a e1 e2 e3 e4 e5
  simp only [wpListIn, wanted_eq e4 hw, Bool.false_eq_true, if_false]
  refine ⟨fun f _ => Fc_fn ro f, ?_⟩
  rw [hd]
  exact hk.out cd c0 c _ e1 e2 e3 (e4.put hdn (.tup [] rfl (fun i a v h => by simp at h))) (e5.mono (Ext.refl c) rfl)

theorem WpOps.skip0 (hw : wantedA ops t o = some false) (hd : o.dst = none)
    (hk : WpOps E ro n ops rest K t H) : WpOps E ro n ops (o :: rest) K t H := by
  refine ⟨?_⟩
  intro cd c0 c a e1 e2 e3 e4 e5
  simp only [wpListIn, wanted_eq e4 hw, Bool.false_eq_true, if_false]
  refine ⟨fun f _ => Fc_fn ro f, ?_⟩
  rw [hd]
  exact hk.out cd c0 c _ e1 e2 e3 e4 e5

/-- A slot's bool is parted: in each half it is a literal. -/
theorem WpOps.split {l : List Oper} (d : Nat) (b : Bool) (hb : look t d = .bool b) (h1 : b = true → WpOps E ro n ops l K ((d, .bool true) :: t) H) (h2 : b = false → WpOps E ro n ops l K ((d, .bool false) :: t) H) :
    WpOps E ro n ops l K t H := by
  refine ⟨?_⟩
  intro cd c0 c a e1 e2 e3 e4 e5
  cases b with
  | true => exact (h1 rfl).out cd c0 c a e1 e2 e3 (e4.look_cons hb) e5
  | false => exact (h2 rfl).out cd c0 c a e1 e2 e3 (e4.look_cons hb) e5
end steps

/-! ### Values that need no memory but what is frozen -/
def cellsA : AV → Option (List AV)
  | .agg cs => some cs
  | .unk => none
  | .tup _ => none
  | a => some [a]

def AV.one : AV → Bool
  | .agg _ | .unk | .tup _ => false
  | _ => true

theorem RelV.one' {c : Cfg} {a : AV} {v : Value} (h : RelV c a v) (ha : a.one = true) : v.oneCell' = true := by
  cases h <;> first | rfl | simp [AV.one] at ha

theorem cellsA_rel {c : Cfg} {a : AV} {v : Value} {cs : List AV} (h : RelV c a v) (ha : cellsA a = some cs) : RelL c cs v.cells.toList := by
  cases h <;> simp only [cellsA, Option.some.injEq, reduceCtorEq] at ha <;> try (subst ha; refine RelL.cons ?_ (RelL.nil c))
  case agg ws hl hr => subst ha; exact ⟨hl, hr⟩
  case int => exact .int
  case bool => exact .bool
  case str => exact .str
  case nilp => exact .nilp
  case ptr h => exact .ptr h
  case rp vs hs hf hr => exact .rp vs hs hf hr
  case sl vs hl hc hz ht hf hr => exact .sl vs hl hc hz ht hf hr
  case os h hc => exact .os h hc
  case func ws hl hr => exact .func ws hl hr
  case nilf => exact .nilf
  case iface h => exact .iface h
  case nili => exact .nili
  case map h => exact .map h
  case nilm => exact .nilm
  case yld h => exact .yld h

def constO : Value → Option AV
  | .int k n => some (.int k n)
  | .bool b => some (.bool b)
  | .string s => some (.str s.data.toList)
  | .pointer none => some .nilp
  | .slice none 0 0 => some (.sl .full 0 [])
  | .nilFunc => some .nilf
  | .nilIface => some .nili
  | .map none => some .nilm
  | _ => none

theorem constO_eq {v : Value} {a : AV} (h : constO v = some a) : constA v = a := by
  unfold constO at h
  split at h <;> simp only [Option.some.injEq, reduceCtorEq] at h <;> (subst h; rfl)

def lookO : Slots → Nat → Option AV
  | [], _ => none
  | (j, v) :: r, i => bif Nat.beq j i then some v else lookO r i

theorem lookO_eq : ∀ {t : Slots} {i : Nat} {a : AV}, lookO t i = some a → look t i = a
  | [], _, _, h => by simp [lookO] at h
  | (j, v) :: r, i, a, h => by
    unfold lookO at h
    unfold look
    cases hb : Nat.beq j i with
    | true => rw [hb] at h; simp only [cond_true, Option.some.injEq] at h ⊢; exact h
    | false => rw [hb] at h; simp only [cond_false] at h ⊢; exact lookO_eq h

def evalO (G : GEnv) (t : Slots) : Operand → Option AV
  | .tmp i => lookO t i
  | .const v => constO v
  | .global g => match G g with | some cs => some (.rp cs) | none => none
  | .func f => some (.func f [])

theorem evalO_eq {G : GEnv} {t : Slots} {x : Operand} {a : AV} (h : evalO G t x = some a) : evalA G t x = a := by
  cases x with
  | tmp i => exact lookO_eq h
  | const v => exact constO_eq h
  | global g =>
    simp only [evalO] at h
    simp only [evalA]
    split at h
    · rename_i cs hg; rw [hg]; simpa using h
    · simp at h
  | func f => simpa [evalO, evalA] using h

def pickA (b : Bool) : AV → AV → AV
  | .bool x, .bool y => .bool (bif b then x else y)
  | x, y => bif b then x else y

def pickO (b : Bool) (x y : AV) : Option AV :=
  match x, y with
  | .bool x, .bool y => some (.bool (bif b then x else y))
  | x, y => bif b then some x else some y

theorem pickO_eq {b : Bool} {x y a : AV} (h : pickO b x y = some a) : pickA b x y = a := by
  unfold pickO at h
  unfold pickA
  split at h
  · simpa using h
  · rename_i hn
    cases b <;> simpa using h

def evalL (G : GEnv) (t : Slots) : List Operand → List AV
  | [] => []
  | x :: xs => evalA G t x :: evalL G t xs

theorem evalL_rel {G : GEnv} {c : Cfg} {n : Nat} {t : Slots} {a : Act} (ho : Ok G c) (s : SR c n t a) : ∀ xs : List Operand, RelL c (evalL G t xs) (xs.map a.eval)
  | [] => RelL.nil c
  | x :: xs => RelL.cons (eval_rel ho s x) (evalL_rel ho s xs)

def intA (op : BinOp) (k : IntKind) (x y : Int) : Option AV :=
  match op with
  | .add => some (.int k (k.wrap (x + y)))
  | .sub => some (.int k (k.wrap (x - y)))
  | .mul => some (.int k (k.wrap (x * y)))
  | .and => some (.int k (k.wrap (BitVec.ofInt k.bits x &&& BitVec.ofInt k.bits y).toNat))
  | .or => some (.int k (k.wrap (BitVec.ofInt k.bits x ||| BitVec.ofInt k.bits y).toNat))
  | .xor => some (.int k (k.wrap (BitVec.ofInt k.bits x ^^^ BitVec.ofInt k.bits y).toNat))
  | .andNot => some (.int k (k.wrap (BitVec.ofInt k.bits x &&& ~~~BitVec.ofInt k.bits y).toNat))
  | .eql => some (.bool (x == y))
  | .neq => some (.bool (x != y))
  | .lss => some (.bool (decide (x < y)))
  | .leq => some (.bool (decide (x ≤ y)))
  | .gtr => some (.bool (decide (x > y)))
  | .geq => some (.bool (decide (x ≥ y)))
  | _ => none

def strA (op : BinOp) (x y : List UInt8) : Option AV :=
  match op with
  | .eql => some (.bool (x == y))
  | .neq => some (.bool (!(x == y)))
  | .lss => some (.bool (Op.bytesLess x y))
  | .leq => some (.bool (Op.bytesLess x y || x == y))
  | .gtr => some (.bool (!(Op.bytesLess x y || x == y)))
  | .geq => some (.bool (!Op.bytesLess x y))
  | _ => none

theorem pickA_rel {c : Cfg} {b : Bool} {x y : AV} {u v : Value} (h1 : RelV c x u) (h2 : RelV c y v) : RelV c (pickA b x y) (if b = true then u else v) := by
  have h : RelV c (bif b then x else y) (if b = true then u else v) := by cases b <;> simpa
  unfold pickA
  split
  · rename_i p q
    have := h1.bool_inv
    have := h2.bool_inv
    subst u; subst v
    cases b <;> exact .bool
  · exact h

theorem ByteArray.toList_loop (s : ByteArray) : ∀ (k i : Nat) (acc : List UInt8), k = s.size - i → ByteArray.toList.loop s i acc = acc.reverse ++ s.data.toList.drop i
  | 0, i, acc, h => by
    have hi : s.data.toList.length ≤ i := by simp; show s.size ≤ i; omega
    unfold ByteArray.toList.loop
    rw [if_neg (by omega), List.drop_eq_nil_of_le hi]
    simp
  | k + 1, i, acc, h => by
    have hi : i < s.size := by omega
    have hi' : i < s.data.toList.length := by simp; exact hi
    unfold ByteArray.toList.loop
    rw [if_pos hi, toList_loop s k (i + 1) _ (by omega), List.reverse_cons, List.append_assoc, List.drop_eq_getElem_cons hi']
    congr 2
    simp [ByteArray.get!, Array.getD, hi]

theorem toList_mk (l : List UInt8) : (ByteArray.mk l.toArray).toList = l := by
  unfold ByteArray.toList
  rw [ByteArray.toList_loop _ _ 0 [] rfl]
  simp


def binA (T : List (Nat × TI)) (op : BinOp) (ty : Nat) (x y : AV) : Option AV :=
  match x, y with
  | .int k a, .int k' b => match op with
    | .shl => none
    | .shr => none
    | op => if k = k' then intA op k a b else none
  | .bool a, .bool b => match (lookT T ty).map TI.d, op with
    | some .basic, .eql => some (.bool (a == b))
    | some .basic, .neq => some (.bool (!(a == b)))
    | _, _ => none
  | .str a, .str b => strA op a b
  | _, _ => none

theorem eqGuard_plain {P : Program} {w : World} {op : BinOp} {t : TypeId} {x y : Operand} {a b : Value} (h1 : ∀ cs, a ≠ .agg cs) (h2 : a ≠ .nilIface) : (eqGuard op t x y a b).run P w = .ok () w := by
  unfold eqGuard
  split
  all_goals first
    | (simp; done)
    | (cases a <;> first | exact absurd rfl h2 | exact absurd rfl (h1 _) | (simp; done))

theorem run_equal_bool {P : Program} {w : World} {ty : TypeId} (hu : P.underlying ty = some .bool) (a b : Bool) : (Op.equal ty (.bool a) (.bool b)).run P w = .ok (a == b) w := by
  show (Op.equalIn (9999 + 1) ty (.bool a) (.bool b)).run P w = _
  generalize 9999 = d
  unfold Op.equalIn
  simp only [Sem.run_bind, run_underlying hu, Result.andThen_ok, Sem.run_pure]

theorem binA_sound {E : Env} {c : Cfg} {op : BinOp} {ty : Nat} {x y av : AV} {u v : Value} {ox oy : Operand} (h : binA E.T op ty x y = some av) (h1 : RelV c x u) (h2 : RelV c y v) :
    ∃ r, (do eqGuard op ty ox oy u v; binOp op ty u v).run E.P c.w = .ok r c.w ∧ RelV c av r := by
  unfold binA at h
  split at h
  · rename_i k a k' b
    cases h1; cases h2
    rw [Sem.run_bind, eqGuard_plain (by simp) (by simp)]
    simp only [Result.andThen_ok]
    have hk : ∀ op', op' = op → op ≠ .shl → op ≠ .shr → (if k = k' then intA op k a b else none) = some av → ∃ r, (binOp op ty (.int k a) (.int k' b)).run E.P c.w = .ok r c.w ∧ RelV c av r := by
      clear h
      rintro op' rfl n1 n2 g
      by_cases hkk : k = k'
      · subst hkk
        rw [if_pos rfl] at g
        cases op' <;> simp only [intA, Option.some.injEq, reduceCtorEq] at g
        all_goals first
          | (subst g; exact ⟨_, by simp [binOp, Op.intArith, Op.intBits, Op.intCmp], .int⟩)
          | (subst g; exact ⟨_, by simp [binOp, Op.intArith, Op.intBits, Op.intCmp], .bool⟩)
      · rw [if_neg hkk] at g
        simp at g
    cases op <;> first | (simp at h; done) | exact hk _ rfl (by simp) (by simp) h
  · rename_i a b
    cases h1; cases h2
    rw [Sem.run_bind, eqGuard_plain (by simp) (by simp)]
    simp only [Result.andThen_ok]
    split at h
    · rename_i hl
      obtain ⟨i, hi, hd⟩ := Option.map_eq_some_iff.1 hl
      obtain ⟨d, hu, hok⟩ := (Env.ti hi).u
      rw [hd] at hok
      have hok' : d = .bool := hok
      subst hok'
      simp only [Option.some.injEq] at h
      subst h
      refine ⟨_, ?_, .bool⟩
      show (do pure (Value.bool (← Op.equal ty (.bool a) (.bool b))) : Sem Value).run E.P c.w = _
      rw [Sem.run_bind, run_equal_bool hu]
      rfl
    · rename_i hl
      obtain ⟨i, hi, hd⟩ := Option.map_eq_some_iff.1 hl
      obtain ⟨d, hu, hok⟩ := (Env.ti hi).u
      rw [hd] at hok
      have hok' : d = .bool := hok
      subst hok'
      simp only [Option.some.injEq] at h
      subst h
      refine ⟨_, ?_, .bool⟩
      show (do pure (Value.bool (!(← Op.equal ty (.bool a) (.bool b)))) : Sem Value).run E.P c.w = _
      rw [Sem.run_bind, run_equal_bool hu]
      rfl
    · simp at h
  · rename_i a b
    cases h1; cases h2
    rw [Sem.run_bind, eqGuard_plain (by simp) (by simp)]
    simp only [Result.andThen_ok]
    cases op <;> simp only [strA, Option.some.injEq, reduceCtorEq] at h
    all_goals (subst h; exact ⟨_, by simp [binOp, Op.stringOp, toList_mk], .bool⟩)
  · simp at h

def fieldOf (T : List (Nat × TI)) (s f : Nat) : Option (Nat × TI) :=
  match lookT T s with
  | some i => match i.d with
    | .struct fs => match fs[f]? with
      | some (off, ft) => match lookT T ft with
        | some j => some (off, j)
        | none => none
      | none => none
    | _ => none
  | none => none

theorem fieldOf_spec {E : Env} {s f off : Nat} {j : TI} (h : fieldOf E.T s f = some (off, j)) :
    ∃ gs g, E.P.underlying s = some (.struct gs) ∧ gs[f]? = some g ∧ g.offset = off ∧ lookT E.T g.type = some j := by
  unfold fieldOf at h
  split at h <;> try simp at h
  rename_i i hi
  split at h <;> try simp at h
  rename_i fs hfs
  split at h <;> try simp at h
  rename_i o ft hf
  split at h <;> try simp at h
  rename_i j' hj
  obtain ⟨rfl, rfl⟩ := h
  obtain ⟨d, hu, hok⟩ := (Env.ti hi).u
  rw [hfs] at hok
  obtain ⟨gs, rfl, hgs⟩ := hok
  have : (gs.toList.map (fun f => (f.offset, f.type)))[f]? = some (o, ft) := by rw [hgs]; exact hf
  rw [List.getElem?_map] at this
  obtain ⟨g, hg, he⟩ := Option.map_eq_some_iff.1 this
  simp only [Prod.mk.injEq] at he
  refine ⟨gs, g, hu, by rw [← Array.getElem?_toList]; exact hg, he.1, by rw [he.2]; exact hj⟩

theorem addr_add_add (p : Addr) (h : p.spot = none) (i j : Nat) : (p.add i).add j = p.add (i + j) := by
  unfold Addr.add
  by_cases h1 : i = 0
  · subst h1; simp
  · by_cases h2 : j = 0
    · subst h2; simp [h1]
    · simp [h1, h2, Nat.add_assoc]

theorem addr_add_spot (p : Addr) (h : p.spot = none) (i : Nat) : (p.add i).spot = none := by
  unfold Addr.add
  split <;> simp [h]

theorem RelV.rp_drop {c : Cfg} {cs : List AV} {p : Addr} (h : RelV c (.rp cs) (.pointer (some p))) (k : Nat) : RelV c (.rp (cs.drop k)) (.pointer (some (p.add k))) := by
  cases h with
  | rp vs hs hf hr =>
    refine .rp (fun i => vs (k + i)) (addr_add_spot p hs k) (fun i hi => ?_) (fun i e he => ?_)
    · rw [addr_add_add p hs]
      exact hf _ (by rw [List.length_drop] at hi; omega)
    · rw [List.getElem?_drop] at he
      exact hr _ e he

theorem RelV.ptr_add {c : Cfg} {m j off : Nat} {p : Addr} (h : RelV c (.ptr m j off) (.pointer (some p))) (k : Nat) : RelV c (.ptr m j (off + k)) (.pointer (some (p.add k))) := by
  cases h with
  | ptr hb =>
    rename_i b
    have : (⟨b, off, none⟩ : Addr).add k = ⟨b, off + k, none⟩ := by
      unfold Addr.add
      split
      · rename_i h0; subst h0; rfl
      · rfl
    rw [this]
    exact .ptr hb

def addrAdd (k : Nat) : AV → Option AV
  | .ptr m j off => some (.ptr m j (off + k))
  | .rp cs => some (.rp (cs.drop k))
  | _ => none

theorem addrAdd_rel {c : Cfg} {k : Nat} {x y : AV} {v : Value} (h : addrAdd k x = some y) (hr : RelV c x v) : ∃ p, v = .pointer (some p) ∧ RelV c y (.pointer (some (p.add k))) := by
  cases x <;> simp only [addrAdd, Option.some.injEq, reduceCtorEq] at h
  · subst h
    cases hr with
    | ptr hb => exact ⟨_, rfl, RelV.ptr_add (.ptr hb) k⟩
  · subst h
    cases hr with
    | rp vs hs hf hr => exact ⟨_, rfl, RelV.rp_drop (.rp vs hs hf hr) k⟩

def ptrBase (n0 : Nat) : AV → Nat
  | .ptr m _ _ => m
  | _ => n0

/-- A load (L: what the activation has laid, from id n0 on). -/
def loadA (L : List AObj) (i : TI) : AV → Option AV
  | .rp cs => bif Nat.ble i.sz cs.length then varA i cs else none
  | .ptr _ j off => match L[j]? with
    | some (.cells cs) => bif Nat.ble (off + i.sz) cs.length then varA i (cs.drop off) else none
    | _ => none
  | _ => none

theorem load_cells {E : Env} {c : Cfg} {ty : Nat} {i : TI} {id off b : Nat} {cs : List AV} {av : AV} (ho : HR c) (hi : lookT E.T ty = some i) (hcs : c.H[id]? = some (.cells cs)) (hb : c.ι id = some b)
    (hle : off + i.sz ≤ cs.length) (h : varA i (cs.drop off) = some av) : ∃ r, (Instr.loadAt ty (.pointer (some ⟨b, off, none⟩))).run E.P c.w = .ok r c.w ∧ RelV c av r := by
  obtain ⟨vs, hr, hc⟩ := box_at (off := off) ho hcs hb
  obtain ⟨r, h1, h2⟩ := run_loadVar hi hr hc (by rw [List.length_drop]; omega) h
  exact ⟨r, by simpa [Instr.loadAt, Instr.sureAddr] using h1, h2⟩

theorem loadA_sound {E : Env} {c : Cfg} {n0 ty : Nat} {i : TI} {x av : AV} {v : Value} {H L : List AObj} (hH : c.H = H ++ L) (hn : H.length = n0) (ho : HR c) (hi : lookT E.T ty = some i) (h : loadA L i x = some av) (hr : RelV c x v)
    (hb : ptrBase n0 x = n0) :
    ∃ r, (Instr.loadAt ty v).run E.P c.w = .ok r c.w ∧ RelV c av r := by
  cases x <;> simp only [loadA, reduceCtorEq] at h
  · rename_i m j off
    simp only [ptrBase] at hb
    subst hb
    cases hr with
    | ptr hb =>
      rename_i b
      obtain ⟨o, ho1, ho2, ho3⟩ := hb
      split at h
      · rename_i cs hcs
        cases hb' : Nat.ble (off + i.sz) cs.length with
        | false => rw [hb'] at h; simp at h
        | true =>
          rw [hb'] at h
          simp only [cond_true] at h
          exact load_cells ho hi (by rw [hH]; exact app_get hn hcs) ho3 (Nat.le_of_ble_eq_true hb') h
      · simp at h
  · rename_i cs
    cases hr with
    | rp vs hs hf hr =>
      rename_i p
      cases hb' : Nat.ble i.sz cs.length with
      | false => rw [hb'] at h; simp at h
      | true =>
        rw [hb'] at h
        simp only [cond_true] at h
        have hle : i.sz ≤ cs.length := Nat.le_of_ble_eq_true hb'
        have hrl : RelL c cs ((List.range cs.length).map vs) := ⟨by simp, fun j a v ha hv => by
          rw [List.getElem?_map] at hv
          obtain ⟨j', hj, rfl⟩ := Option.map_eq_some_iff.1 hv
          have : j' = j := by
            rw [List.getElem?_range (List.getElem?_eq_some_iff.1 ha).1] at hj
            simpa using hj.symm
          subst this
          exact hr _ _ ha⟩
        have hca : CellsAt c.w p ((List.range cs.length).map vs) := fun j v hv => by
          rw [List.getElem?_map] at hv
          obtain ⟨j', hj, rfl⟩ := Option.map_eq_some_iff.1 hv
          have hlt : j < cs.length := by
            have := (List.getElem?_eq_some_iff.1 hj).1
            simpa using this
          have : j' = j := by
            rw [List.getElem?_range hlt] at hj
            simpa using hj.symm
          subst this
          exact (hf _ hlt).1
        obtain ⟨r, h1, h2⟩ := run_loadVar hi hrl hca hle h
        exact ⟨r, by simpa [Instr.loadAt, Instr.sureAddr] using h1, h2⟩

def convA (T : List (Nat × TI)) (dst : Nat) : AV → Option AV
  | .int _ n => match (lookT T dst).map TI.d with
    | some (.int k) => some (.int k (k.wrap n))
    | _ => none
  | .str s => match (lookT T dst).map TI.d with
    | some .str => some (.str s)
    | _ => none
  | _ => none

def lenA (T : List (Nat × TI)) (ty : Nat) (x : AV) : Option AV :=
  match (lookT T ty).map TI.d, x with
  | some .str, .str s => some (.int .i64 s.length)
  | some (.slice _), .sl _ _ xs => some (.int .i64 xs.length)
  | some (.slice _), .os _ _ _ _ len => some (.int .i64 len)
  | some (.array n _), _ => some (.int .i64 n)
  | _, _ => none

def fillA (place : Nat → Option (Nat × Nat)) (cells : List AV) : List (Nat × AV) → Option (List AV)
  | [] => some cells
  | (i, v) :: rest => match place i, cellsA v with
    | some (off, size), some cs => bif Nat.beq cs.length size && Nat.ble (off + cs.length) cells.length then fillA place (cells.take off ++ cs ++ cells.drop (off + cs.length)) rest else none
    | _, _ => none

def partA (j : TI) (cs : List AV) (off : Nat) : Option AV := bif j.d.agg then (bif Nat.ble (off + j.sz) cs.length then some (.agg ((cs.drop off).take j.sz)) else none) else cs[off]?

/-- The operations that leave memory and heap alone. -/
def valA (E : Env) (t : Slots) (L : List AObj) (op : Op) : Option AV :=
  match op with
  | .move x => evalO E.G t x
  | .assign x => evalO E.G t x
  | .pick c a b => match evalA E.G t c with
    | .bool x => match evalO E.G t a, evalO E.G t b with
      | some u, some v => pickO x u v
      | some u, none => match x with | true => some u | false => none
      | none, some v => match x with | true => none | false => some v
      | _, _ => none
    | _ => none
  | .load ty x => match lookT E.T ty with
    | some i => loadA L i (evalA E.G t x)
    | none => none
  | .fieldAddr s x f => match fieldOf E.T s f with
    | some (off, j) => bif Nat.beq j.sz 0 then none else addrAdd off (evalA E.G t x)
    | none => none
  | .field s x f => match fieldOf E.T s f, evalA E.G t x with
    | some (off, j), .agg cs => partA j cs off
    | _, _ => none
  | .extract x i => match evalA E.G t x with
    | .tup vs => vs[i]?
    | _ => none
  | .unOp .not _ x => match evalA E.G t x with
    | .bool b => some (.bool (!b))
    | _ => none
  | .unOp .neg _ x => match evalA E.G t x with
    | .int k m => some (.int k (k.wrap (0 - m)))
    | _ => none
  | .unOp .xor _ x => match evalA E.G t x with
    | .int k m => some (.int k (k.wrap (BitVec.ofInt k.bits (if k.signed then -1 else k.max) ^^^ BitVec.ofInt k.bits m).toNat))
    | _ => none
  | .binOp op ty x y _ => binA E.T op ty (evalA E.G t x) (evalA E.G t y)
  | .convert src dst x => match lookT E.T src with
    | some _ => convA E.T dst (evalA E.G t x)
    | none => none
  | .makeFunc (.func g) ⟨[]⟩ ⟨cs⟩ => some (.func g (evalL E.G t cs))
  | .nilCheck x => match evalA E.G t x with
    | .ptr m j off => some (.ptr m j off)
    | .rp cs => some (.rp cs)
    | .func g cs => some (.func g cs)
    | _ => none
  | .call { callee := .builtin .len, args := ⟨[x]⟩, argTypes := ⟨[ty]⟩ } => lenA E.T ty (evalA E.G t x)
  | _ => none

/-- The base of what is read: it must be the activation's own. -/
def baseN (E : Env) (n0 : Nat) (t : Slots) (op : Op) : Nat :=
  match op with
  | .load _ x => ptrBase n0 (evalA E.G t x)
  | _ => n0

end Go.Gp
