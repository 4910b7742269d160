/- One rule for each kind of operation that yields a value, in a statement of fixed order and in one of open order. -/
import Derived.Test.YtmacdhglhafldaaA11
namespace Go.Gp
open Go.RowKit
set_option linter.unusedVariables false
set_option linter.unusedSimpArgs false

structure P1 (E : Env) (n : Nat) (H H1 : List AObj) (o : Oper) (t : Slots) (av : AV) : Prop where
  nd : notDefer o
  out : ∀ (c : Cfg) (a : Act), c.H = H → Ok E.G c → SR c n t a → ∃ v ι' w', (execOp a.eval o).run E.P c.w = .ok (.value v) w' ∧ Ext c ⟨ι', H1, w'⟩ ∧ HR ⟨ι', H1, w'⟩ ∧ RelV ⟨ι', H1, w'⟩ av v

section
variable {E : Env} {ro : Option Nat} {n : Nat} {K : Kont} {t : Slots} {H H1 L : List AObj} {ops : Array Oper} {o : Oper} {rest : List Oper} {Kc : Slots → Prop}

theorem WpOps.p1 {d : Nat} {av : AV} (hw : wantedA ops t o = some true) (hd : o.dst = some d) (hdn : Nat.blt d n = true) (h : P1 E n H H1 o t av)
    (hk : WpOps E ro n ops rest K ((d, av) :: t) H1) : WpOps E ro n ops (o :: rest) K t H := .value hw hd hdn h.nd h.out hk

theorem LexA.p1 {d : Nat} {av : AV} (hw : wantedA ops t o = some true) (hd : o.dst = some d) (hdn : Nat.blt d n = true) (h : P1 E n H H o (cutT (o.looksAt ops) t) av)
    (hk : LexA E ro n H ops Kc rest ((d, av) :: t)) : LexA E ro n H ops Kc (o :: rest) t := .value av hw hd hdn h.nd h.out hk

/-- A value that leaves the world alone. -/
theorem P1.still {av : AV} (hnd : notDefer o) (h : ∀ (c : Cfg) (a : Act), c.H = H → Ok E.G c → SR c n t a → ∃ v, (execOp a.eval o).run E.P c.w = .ok (.value v) c.w ∧ RelV c av v) : P1 E n H H o t av :=
  ⟨hnd, fun c a hH ho s => by
    obtain ⟨v, h1, h2⟩ := h c a hH ho s
    exact ⟨v, c.ι, c.w, h1, by rw [← hH]; exact Ext.refl c, by rw [← hH]; exact ho.hr, by rw [← hH]; exact h2⟩⟩

theorem valA_congr {op : Op} {t' : Slots} (h : ∀ x ∈ op.operands, evalA E.G t' x = evalA E.G t x ∧ evalO E.G t' x = evalO E.G t x) : valA E t' L op = valA E t L op := by
  cases op <;> (try rfl) <;> simp only [Op.operands] at h
  case move x => exact (h x (by simp)).2
  case assign x => exact (h x (by simp)).2
  case pick c a b =>
    unfold valA
    simp only [(h c (by simp)).1, (h a (by simp)).2, (h b (by simp)).2]
  case load ty x => unfold valA; simp only [(h x (by simp)).1]
  case fieldAddr s x f => unfold valA; simp only [(h x (by simp)).1]
  case field s x f => unfold valA; simp only [(h x (by simp)).1]
  case extract x i => unfold valA; simp only [(h x (by simp)).1]
  case unOp u ty x => cases u <;> (try rfl) <;> (unfold valA; simp only [(h x (by simp)).1])
  case binOp op ty x y yt => unfold valA; simp only [(h x (by simp)).1, (h y (by simp)).1]
  case convert src dst x => unfold valA; simp only [(h x (by simp)).1]
  case makeFunc f fs cs =>
    obtain ⟨fs⟩ := fs
    obtain ⟨cs⟩ := cs
    cases f <;> (try rfl)
    cases fs <;> (try rfl)
    unfold valA
    simp only
    rw [evalL_congr fun x hx => (h x (by simp [hx])).1]
  case nilCheck x => unfold valA; simp only [(h x (by simp)).1]
  case call c =>
    obtain ⟨callee, args, ats⟩ := c
    obtain ⟨args⟩ := args
    obtain ⟨ats⟩ := ats
    cases callee <;> (try rfl)
    rename_i b
    cases b <;> (try rfl)
    cases args with
    | nil => rfl
    | cons x xs =>
      cases xs with
      | cons => rfl
      | nil =>
        cases ats with
        | nil => rfl
        | cons ty tys =>
          cases tys with
          | cons => rfl
          | nil =>
            unfold valA
            simp only [(h x (by simp [Call.operands])).1]

theorem baseN_congr {n0 : Nat} {op : Op} {t' : Slots} (h : ∀ x ∈ op.operands, evalA E.G t' x = evalA E.G t x) : baseN E n0 t' op = baseN E n0 t op := by
  cases op <;> (try rfl)
  rename_i ty x
  unfold baseN
  simp only [h x (by simp [Op.operands])]

theorem P1.op {av : AV} (hv : valA E t L o.op = some av) (hb : baseN E H.length t o.op = H.length) : P1 E n (H ++ L) (H ++ L) o t av :=
  .still (valA_notDefer hv) fun c a hH ho s => valA_sound hH rfl ho s hv hb

theorem LexA.op {d : Nat} (av : AV) (hw : wantedA ops t o = some true) (hd : o.dst = some d) (hdn : Nat.blt d n = true) (hv : valA E t L o.op = some av) (hb : baseN E H.length t o.op = H.length)
    (hk : LexA E ro n (H ++ L) ops Kc rest ((d, av) :: t)) : LexA E ro n (H ++ L) ops Kc (o :: rest) t :=
  .p1 hw hd hdn (.op (by rw [valA_congr fun x hx => ⟨evalA_cut hx, evalO_cut hx⟩]; exact hv) (by rw [baseN_congr fun x hx => evalA_cut hx]; exact hb)) hk

/-! ### Elements -/
theorem P1.elem {ty e z : Nat} {j : TI} {x ix : Operand} {tg : Tag} {xs : List (List AV)} {k : IntKind} {i : Int} {l : List AV} (hop : o.op = .indexAddr ty x ix)
    (hs : sliceOf E.T ty = some (e, j)) (hx : evalA E.G t x = .sl tg z xs) (hi : evalA E.G t ix = .int k i) (hz : j.sz = z) (hz0 : Nat.blt 0 z = true) (h0 : 0 ≤ i) (hl : xs[i.toNat]? = some l) : P1 E n H H o t (.rp l) :=
  .still (fun cc e => by rw [hop] at e; cases e) (fun c a hH ho s => by
    obtain ⟨hu, hj⟩ := sliceOf_spec hs
    have hxr := eval_rel ho s x
    rw [hx] at hxr
    have hir := eval_rel ho s ix
    rw [hi] at hir
    generalize hv : a.eval x = v at hxr
    generalize hv2 : a.eval ix = v2 at hir
    cases hir
    cases hxr with
    | sl vs hlen hc hzz ht hf hr =>
      rename_i ad len cap
      have hlt : i.toNat < len := by rw [← hlen]; exact (List.getElem?_eq_some_iff.1 hl).1
      have hll : l.length = z := hzz l (List.mem_of_getElem? hl)
      have hrp : ∀ p, ad = some p → p.spot = none → RelV c (.rp l) (.pointer (some (p.add (i.toNat * z)))) := fun p hp hsp => by
        refine .rp (fun q => vs i.toNat q) (addr_add_spot p hsp _) (fun q hq => ?_) (fun q e he => hr _ _ l e hl he)
        obtain ⟨ad', e1, e2, e3⟩ := hf i.toNat q hlt (by omega)
        rw [hp] at e1
        injection e1 with e1
        subst e1
        rw [addr_add_add p hsp]
        exact e3
      cases ad with
      | none =>
        obtain ⟨ad', e1, _⟩ := hf i.toNat 0 hlt (by simpa using hz0)
        cases e1
      | some p =>
        have hsp : p.spot = none := by
          obtain ⟨ad', e1, e2, _⟩ := hf i.toNat 0 hlt (by simpa using hz0)
          injection e1 with e1
          subst e1
          exact e2
        refine ⟨_, ?_, hrp p rfl hsp⟩
        have hb : 0 ≤ i ∧ i < (len : Int) := ⟨h0, by omega⟩
        simp [execOp, hop, hv, hv2, Instr.indexAt, asIntOf, run_underlying hu, hb, run_sizeOf hj, hz])

theorem P1.indexS {ty : Nat} {x ix : Operand} {s : List UInt8} {k : IntKind} {i : Int} {b : UInt8} (hop : o.op = .index ty x ix)
    (hs : (lookT E.T ty).map TI.d = some .str) (hx : evalA E.G t x = .str s) (hi : evalA E.G t ix = .int k i) (h0 : 0 ≤ i) (hl : s[i.toNat]? = some b) : P1 E n H H o t (.int .u8 b.toNat) :=
  .still (fun cc e => by rw [hop] at e; cases e) (fun c a hH ho sr => by
    obtain ⟨j, u, hj, hu, hok⟩ := lookT_d hs
    have hok' : u = .string := hok
    subst hok'
    have hxr := eval_rel ho sr x
    rw [hx] at hxr
    have hir := eval_rel ho sr ix
    rw [hi] at hir
    generalize hv : a.eval x = v at hxr
    generalize hv2 : a.eval ix = v2 at hir
    cases hir
    cases hxr
    refine ⟨_, ?_, .int⟩
    have hg : (ByteArray.mk s.toArray)[i.toNat]? = some b := by
      show s.toArray[i.toNat]? = some b
      simpa using hl
    simp [execOp, hop, hv, hv2, Instr.index, asIntOf, run_underlying hu, h0, hg])

theorem P1.indexA {ty m : Nat} {x ix : Operand} {j : TI} {cs : List AV} {k : IntKind} {i : Int} {av : AV} (hop : o.op = .index ty x ix)
    (hs : arrayOf E.T ty = some (m, j)) (hx : evalA E.G t x = .agg cs) (hi : evalA E.G t ix = .int k i) (h0 : 0 ≤ i) (h1 : i < m) (hl : partA j cs (i.toNat * j.sz) = some av) : P1 E n H H o t av :=
  .still (fun cc e => by rw [hop] at e; cases e) (fun c a hH ho sr => by
    obtain ⟨e, hu, hj⟩ := arrayOf_spec hs
    have hxr := eval_rel ho sr x
    rw [hx] at hxr
    have hir := eval_rel ho sr ix
    rw [hi] at hir
    generalize hv : a.eval x = v at hxr
    generalize hv2 : a.eval ix = v2 at hir
    cases hir
    cases hxr with
    | agg ws hll hr =>
      obtain ⟨r, h2, h3⟩ := part_sound hj ⟨hll, hr⟩ hl
      refine ⟨r, ?_, h3⟩
      simp [execOp, hop, hv, hv2, Instr.index, asIntOf, run_underlying hu, h0, h1, run_sizeOf hj, h2])

/-- An element of an array in memory, its address. -/
theorem P1.elemA {ty m : Nat} {x ix : Operand} {j : TI} {p : AV} {k : IntKind} {i : Int} {av : AV} (hop : o.op = .indexAddr ty x ix)
    (hs : arrayOf E.T ty = some (m, j)) (hx : evalA E.G t x = p) (hi : evalA E.G t ix = .int k i) (h0 : 0 ≤ i) (h1 : i < m) (hl : addrAdd (i.toNat * j.sz) p = some av) : P1 E n H H o t av :=
  .still (fun cc e => by rw [hop] at e; cases e) (fun c a hH ho sr => by
    obtain ⟨e, hu, hj⟩ := arrayOf_spec hs
    have hxr := eval_rel ho sr x
    rw [hx] at hxr
    have hir := eval_rel ho sr ix
    rw [hi] at hir
    generalize hv2 : a.eval ix = v2 at hir
    cases hir
    obtain ⟨q, hq, hr⟩ := addrAdd_rel hl hxr
    refine ⟨_, ?_, hr⟩
    simp [execOp, hop, hq, hv2, Instr.indexAt, Instr.sureAddr, asIntOf, run_underlying hu, h0, h1, run_sizeOf hj])

/-- An element of a slice of an array in sight, its address. -/
theorem P1.elemO {ty e m q off z len : Nat} {x ix : Operand} {j : TI} {k : IntKind} {i : Int} (hop : o.op = .indexAddr ty x ix)
    (hs : sliceOf E.T ty = some (e, j)) (hx : evalA E.G t x = .os m q off z len) (hi : evalA E.G t ix = .int k i) (hz : j.sz = z) (h0 : 0 ≤ i) (h1 : i < len) : P1 E n H H o t (.ptr m q (off + i.toNat * z)) :=
  .still (fun cc e => by rw [hop] at e; cases e) (fun c a hH ho sr => by
    obtain ⟨hu, hj⟩ := sliceOf_spec hs
    have hxr := eval_rel ho sr x
    rw [hx] at hxr
    have hir := eval_rel ho sr ix
    rw [hi] at hir
    generalize hv : a.eval x = v at hxr
    generalize hv2 : a.eval ix = v2 at hir
    cases hir
    cases hxr with
    | os hb hc =>
      have := RelV.ptr_add (.ptr hb : RelV c (.ptr m q off) _) (i.toNat * z)
      refine ⟨_, ?_, this⟩
      simp [execOp, hop, hv, hv2, Instr.indexAt, asIntOf, run_underlying hu, h0, h1, run_sizeOf hj, hz])

/-- '==' and '!=' of structs and arrays. -/
theorem P1.eqA {ty : Nat} {x y : Operand} {yt : TypeId} {p q : AV} {b : Bool} (neg : Bool) (hop : o.op = .binOp (bif neg then .neq else .eql) ty x y yt) (hx : evalA E.G t x = p) (hy : evalA E.G t y = q) (hk : KeyT E ty) (h : EqS E (.inl ty) [p] [q] b) :
    P1 E n H H o t (.bool (b != neg)) :=
  .still (fun cc e => by rw [hop] at e; cases e) (fun c a hH ho sr => by
    have hxr := eval_rel ho sr x
    rw [hx] at hxr
    have hyr := eval_rel ho sr y
    rw [hy] at hyr
    have := eqA_sound (c := c) (ox := x) (oy := y) hk h hxr hyr neg
    refine ⟨_, ?_, .bool⟩
    simp only [execOp, hop, Sem.run_bind] at this ⊢
    rw [this]
    rfl)

/-! ### Shifts, quotients -/
def shA (op : BinOp) (x y : AV) : Option AV :=
  match x, y with
  | .int k a, .int _ (.ofNat b) => match op with
    | .shl => some (.int k (k.wrap (a * 2 ^ min b k.bits)))
    | .shr => some (.int k (a.fdiv (2 ^ min b k.bits)))
    | _ => none
  | _, _ => none

theorem P1.sh {op : BinOp} {ty : Nat} {x y : Operand} {yt : TypeId} {av : AV} (hop : o.op = .binOp op ty x y yt) (h : shA op (evalA E.G t x) (evalA E.G t y) = some av) : P1 E n H H o t av :=
  .still (fun cc e => by rw [hop] at e; cases e) (fun c a hH ho sr => by
    have hxr := eval_rel ho sr x
    have hyr := eval_rel ho sr y
    unfold shA at h
    split at h
    · rename_i k p k' q hx hy
      rw [hx] at hxr
      rw [hy] at hyr
      generalize hv : a.eval x = v at hxr
      generalize hv2 : a.eval y = v2 at hyr
      cases hxr; cases hyr
      split at h
      · injection h with h; subst h
        refine ⟨_, ?_, .int⟩
        simp only [execOp, hop, hv, hv2, Sem.run_bind]
        rw [eqGuard_plain (by simp) (by simp)]
        simp [binOp, Op.shift]
        intro h
        omega
      · injection h with h; subst h
        refine ⟨_, ?_, .int⟩
        simp only [execOp, hop, hv, hv2, Sem.run_bind]
        rw [eqGuard_plain (by simp) (by simp)]
        simp [binOp, Op.shift]
        intro h
        omega
      · simp at h
    · simp at h)
end

section
variable {E : Env} {ro : Option Nat} {n : Nat} {K : Kont} {t : Slots} {H H1 L : List AObj} {ops : Array Oper} {o : Oper} {rest : List Oper} {Kc : Slots → Prop}

theorem cut_tmp2 {t : Slots} {ty : Nat} {x ix : Operand} (hop : o.op = .index ty x ix) : evalA E.G (cutT (o.looksAt ops) t) x = evalA E.G t x ∧ evalA E.G (cutT (o.looksAt ops) t) ix = evalA E.G t ix :=
  ⟨evalA_cut (by rw [hop]; simp [Op.operands]), evalA_cut (by rw [hop]; simp [Op.operands])⟩
theorem cut_tmp2' {t : Slots} {ty : Nat} {x ix : Operand} (hop : o.op = .indexAddr ty x ix) : evalA E.G (cutT (o.looksAt ops) t) x = evalA E.G t x ∧ evalA E.G (cutT (o.looksAt ops) t) ix = evalA E.G t ix :=
  ⟨evalA_cut (by rw [hop]; simp [Op.operands]), evalA_cut (by rw [hop]; simp [Op.operands])⟩
theorem cut_bin {t : Slots} {op : BinOp} {ty : Nat} {x y : Operand} {yt : TypeId} (hop : o.op = .binOp op ty x y yt) : evalA E.G (cutT (o.looksAt ops) t) x = evalA E.G t x ∧ evalA E.G (cutT (o.looksAt ops) t) y = evalA E.G t y :=
  ⟨evalA_cut (by rw [hop]; simp [Op.operands]), evalA_cut (by rw [hop]; simp [Op.operands])⟩

theorem LexA.elem {d ty e z : Nat} {j : TI} {x ix : Operand} {tg : Tag} {xs : List (List AV)} {k : IntKind} {i : Int} (l : List AV) (hw : wantedA ops t o = some true) (hd : o.dst = some d) (hdn : Nat.blt d n = true) (hop : o.op = .indexAddr ty x ix)
    (hs : sliceOf E.T ty = some (e, j)) (hx : evalA E.G t x = .sl tg z xs) (hi : evalA E.G t ix = .int k i) (hz : j.sz = z) (hz0 : Nat.blt 0 z = true) (h0 : 0 ≤ i) (hl : xs[i.toNat]? = some l)
    (hk : LexA E ro n H ops Kc rest ((d, .rp l) :: t)) : LexA E ro n H ops Kc (o :: rest) t :=
  .p1 hw hd hdn (.elem hop hs (by rw [(cut_tmp2' hop).1]; exact hx) (by rw [(cut_tmp2' hop).2]; exact hi) hz hz0 h0 hl) hk

theorem WpOps.indexS {d ty : Nat} {x ix : Operand} {s : List UInt8} {k : IntKind} {i : Int} (b : UInt8) (hw : wantedA ops t o = some true) (hd : o.dst = some d) (hdn : Nat.blt d n = true) (hop : o.op = .index ty x ix)
    (hs : (lookT E.T ty).map TI.d = some .str) (hx : evalA E.G t x = .str s) (hi : evalA E.G t ix = .int k i) (h0 : 0 ≤ i) (hl : s[i.toNat]? = some b)
    (hk : WpOps E ro n ops rest K ((d, .int .u8 b.toNat) :: t) H) : WpOps E ro n ops (o :: rest) K t H := .p1 hw hd hdn (.indexS hop hs hx hi h0 hl) hk

theorem LexA.indexS {d ty : Nat} {x ix : Operand} {s : List UInt8} {k : IntKind} {i : Int} (b : UInt8) (hw : wantedA ops t o = some true) (hd : o.dst = some d) (hdn : Nat.blt d n = true) (hop : o.op = .index ty x ix)
    (hs : (lookT E.T ty).map TI.d = some .str) (hx : evalA E.G t x = .str s) (hi : evalA E.G t ix = .int k i) (h0 : 0 ≤ i) (hl : s[i.toNat]? = some b)
    (hk : LexA E ro n H ops Kc rest ((d, .int .u8 b.toNat) :: t)) : LexA E ro n H ops Kc (o :: rest) t :=
  .p1 hw hd hdn (.indexS hop hs (by rw [(cut_tmp2 hop).1]; exact hx) (by rw [(cut_tmp2 hop).2]; exact hi) h0 hl) hk

theorem WpOps.indexA {d ty m : Nat} {x ix : Operand} {j : TI} {cs : List AV} {k : IntKind} {i : Int} (av : AV) (hw : wantedA ops t o = some true) (hd : o.dst = some d) (hdn : Nat.blt d n = true) (hop : o.op = .index ty x ix)
    (hs : arrayOf E.T ty = some (m, j)) (hx : evalA E.G t x = .agg cs) (hi : evalA E.G t ix = .int k i) (h0 : 0 ≤ i) (h1 : i < m) (hl : partA j cs (i.toNat * j.sz) = some av)
    (hk : WpOps E ro n ops rest K ((d, av) :: t) H) : WpOps E ro n ops (o :: rest) K t H := .p1 hw hd hdn (.indexA hop hs hx hi h0 h1 hl) hk

theorem LexA.indexA {d ty m : Nat} {x ix : Operand} {j : TI} {cs : List AV} {k : IntKind} {i : Int} (av : AV) (hw : wantedA ops t o = some true) (hd : o.dst = some d) (hdn : Nat.blt d n = true) (hop : o.op = .index ty x ix)
    (hs : arrayOf E.T ty = some (m, j)) (hx : evalA E.G t x = .agg cs) (hi : evalA E.G t ix = .int k i) (h0 : 0 ≤ i) (h1 : i < m) (hl : partA j cs (i.toNat * j.sz) = some av)
    (hk : LexA E ro n H ops Kc rest ((d, av) :: t)) : LexA E ro n H ops Kc (o :: rest) t :=
  .p1 hw hd hdn (.indexA hop hs (by rw [(cut_tmp2 hop).1]; exact hx) (by rw [(cut_tmp2 hop).2]; exact hi) h0 h1 hl) hk

theorem WpOps.elemA {d ty m : Nat} {x ix : Operand} {j : TI} {p : AV} {k : IntKind} {i : Int} (av : AV) (hw : wantedA ops t o = some true) (hd : o.dst = some d) (hdn : Nat.blt d n = true) (hop : o.op = .indexAddr ty x ix)
    (hs : arrayOf E.T ty = some (m, j)) (hx : evalA E.G t x = p) (hi : evalA E.G t ix = .int k i) (h0 : 0 ≤ i) (h1 : i < m) (hl : addrAdd (i.toNat * j.sz) p = some av)
    (hk : WpOps E ro n ops rest K ((d, av) :: t) H) : WpOps E ro n ops (o :: rest) K t H := .p1 hw hd hdn (.elemA hop hs hx hi h0 h1 hl) hk

theorem LexA.elemA {d ty m : Nat} {x ix : Operand} {j : TI} {p : AV} {k : IntKind} {i : Int} (av : AV) (hw : wantedA ops t o = some true) (hd : o.dst = some d) (hdn : Nat.blt d n = true) (hop : o.op = .indexAddr ty x ix)
    (hs : arrayOf E.T ty = some (m, j)) (hx : evalA E.G t x = p) (hi : evalA E.G t ix = .int k i) (h0 : 0 ≤ i) (h1 : i < m) (hl : addrAdd (i.toNat * j.sz) p = some av)
    (hk : LexA E ro n H ops Kc rest ((d, av) :: t)) : LexA E ro n H ops Kc (o :: rest) t :=
  .p1 hw hd hdn (.elemA hop hs (by rw [(cut_tmp2' hop).1]; exact hx) (by rw [(cut_tmp2' hop).2]; exact hi) h0 h1 hl) hk

theorem WpOps.elemO {d ty e m q off z len : Nat} {x ix : Operand} {j : TI} {k : IntKind} {i : Int} (hw : wantedA ops t o = some true) (hd : o.dst = some d) (hdn : Nat.blt d n = true) (hop : o.op = .indexAddr ty x ix)
    (hs : sliceOf E.T ty = some (e, j)) (hx : evalA E.G t x = .os m q off z len) (hi : evalA E.G t ix = .int k i) (hz : j.sz = z) (h0 : 0 ≤ i) (h1 : i < len)
    (hk : WpOps E ro n ops rest K ((d, .ptr m q (off + i.toNat * z)) :: t) H) : WpOps E ro n ops (o :: rest) K t H := .p1 hw hd hdn (.elemO hop hs hx hi hz h0 h1) hk

theorem WpOps.eqA {d ty : Nat} {x y : Operand} {yt : TypeId} {p q : AV} {b : Bool} (hw : wantedA ops t o = some true) (hd : o.dst = some d) (hdn : Nat.blt d n = true) (hop : o.op = .binOp .eql ty x y yt) (hx : evalA E.G t x = p) (hy : evalA E.G t y = q)
    (hk' : KeyT E ty) (h : EqS E (.inl ty) [p] [q] b) (hk : WpOps E ro n ops rest K ((d, .bool b) :: t) H) : WpOps E ro n ops (o :: rest) K t H :=
  .p1 (av := .bool b) hw hd hdn (by have := P1.eqA (n := n) (H := H) false hop hx hy hk' h; rwa [Bool.bne_false] at this) hk
theorem WpOps.neA {d ty : Nat} {x y : Operand} {yt : TypeId} {p q : AV} {b : Bool} (hw : wantedA ops t o = some true) (hd : o.dst = some d) (hdn : Nat.blt d n = true) (hop : o.op = .binOp .neq ty x y yt) (hx : evalA E.G t x = p) (hy : evalA E.G t y = q)
    (hk' : KeyT E ty) (h : EqS E (.inl ty) [p] [q] b) (hk : WpOps E ro n ops rest K ((d, .bool !b) :: t) H) : WpOps E ro n ops (o :: rest) K t H :=
  .p1 (av := .bool !b) hw hd hdn (by have := P1.eqA (n := n) (H := H) true hop hx hy hk' h; rwa [Bool.bne_true] at this) hk
theorem LexA.eqA {d ty : Nat} {x y : Operand} {yt : TypeId} {p q : AV} {b : Bool} (hw : wantedA ops t o = some true) (hd : o.dst = some d) (hdn : Nat.blt d n = true) (hop : o.op = .binOp .eql ty x y yt) (hx : evalA E.G t x = p) (hy : evalA E.G t y = q)
    (hk' : KeyT E ty) (h : EqS E (.inl ty) [p] [q] b) (hk : LexA E ro n H ops Kc rest ((d, .bool b) :: t)) : LexA E ro n H ops Kc (o :: rest) t :=
  .p1 (av := .bool b) hw hd hdn (by have := P1.eqA (n := n) (H := H) false hop ((cut_bin (ops := ops) (t := t) hop).1.trans hx) ((cut_bin (ops := ops) (t := t) hop).2.trans hy) hk' h; rwa [Bool.bne_false] at this) hk
theorem LexA.neA {d ty : Nat} {x y : Operand} {yt : TypeId} {p q : AV} {b : Bool} (hw : wantedA ops t o = some true) (hd : o.dst = some d) (hdn : Nat.blt d n = true) (hop : o.op = .binOp .neq ty x y yt) (hx : evalA E.G t x = p) (hy : evalA E.G t y = q)
    (hk' : KeyT E ty) (h : EqS E (.inl ty) [p] [q] b) (hk : LexA E ro n H ops Kc rest ((d, .bool !b) :: t)) : LexA E ro n H ops Kc (o :: rest) t :=
  .p1 (av := .bool !b) hw hd hdn (by have := P1.eqA (n := n) (H := H) true hop ((cut_bin (ops := ops) (t := t) hop).1.trans hx) ((cut_bin (ops := ops) (t := t) hop).2.trans hy) hk' h; rwa [Bool.bne_true] at this) hk

theorem WpOps.sh {d : Nat} {op : BinOp} {ty : Nat} {x y : Operand} {yt : TypeId} (av : AV) (hw : wantedA ops t o = some true) (hd : o.dst = some d) (hdn : Nat.blt d n = true) (hop : o.op = .binOp op ty x y yt) (h : shA op (evalA E.G t x) (evalA E.G t y) = some av)
    (hk : WpOps E ro n ops rest K ((d, av) :: t) H) : WpOps E ro n ops (o :: rest) K t H := .p1 hw hd hdn (.sh hop h) hk
theorem LexA.sh {d : Nat} {op : BinOp} {ty : Nat} {x y : Operand} {yt : TypeId} (av : AV) (hw : wantedA ops t o = some true) (hd : o.dst = some d) (hdn : Nat.blt d n = true) (hop : o.op = .binOp op ty x y yt) (h : shA op (evalA E.G t x) (evalA E.G t y) = some av)
    (hk : LexA E ro n H ops Kc rest ((d, av) :: t)) : LexA E ro n H ops Kc (o :: rest) t :=
  .p1 hw hd hdn (.sh hop (by rw [(cut_bin (ops := ops) (t := t) hop).1, (cut_bin (ops := ops) (t := t) hop).2]; exact h)) hk
end
end Go.Gp
