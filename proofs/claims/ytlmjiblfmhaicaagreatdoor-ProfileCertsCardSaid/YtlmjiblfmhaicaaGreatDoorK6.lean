/- Part of a proof: GpA11, GpA12, GpA13, GpA14 -/
import Derived.Test.YtlmjiblfmhaicaaGreatDoorK5
import Derived.DeepKeys

set_option linter.unusedSectionVars false

/- Equality of structs and arrays; operations inside a statement whose order is open. -/
namespace Go.Gp
open Go.RowKit
set_option linter.unusedVariables false
set_option linter.unusedSimpArgs false

def beq1 : AV → AV → Bool
  | .int _ a, .int _ b => a == b
  | .bool a, .bool b => a == b
  | .str a, .str b => a == b
  | _, _ => false

def eqAL : List AV → List AV → Bool
  | [], [] => true
  | a :: as, b :: bs => beq1 a b && eqAL as bs
  | _, _ => false

/-- How two values of a type (or of a struct's fields, from one on) compare. -/
inductive EqS (E : Env) : (Nat ⊕ List (Nat × Nat)) → List AV → List AV → Bool → Prop
  | int {t : Nat} {k q : IntKind} {a b : Int} (h : (lookT E.T t).map TI.d = some (.int k)) : EqS E (.inl t) [.int q a] [.int q b] (a == b)
  | bool {t : Nat} {a b : Bool} (h : (lookT E.T t).map TI.d = some .basic) : EqS E (.inl t) [.bool a] [.bool b] (a == b)
  | str {t : Nat} {a b : List UInt8} (h : (lookT E.T t).map TI.d = some .str) : EqS E (.inl t) [.str a] [.str b] (a == b)
  | bytes {t e n : Nat} {k q : IntKind} {as bs : List AV} (h : (lookT E.T t).map TI.d = some (.array n e)) (he : (lookT E.T e).map (fun i => (i.d, i.sz)) = some (.int k, 1)) (h1 : as.length = n) (h2 : bs.length = n)
      (h3 : ∀ a ∈ as, ∃ v, a = .int q v) (h4 : ∀ a ∈ bs, ∃ v, a = .int q v) : EqS E (.inl t) [.agg as] [.agg bs] (eqAL as bs)
  | struct {t : Nat} {fs : List (Nat × Nat)} {as bs : List AV} {r : Bool} (h : (lookT E.T t).map TI.d = some (.struct fs)) (hf : EqS E (.inr fs) as bs r) : EqS E (.inl t) [.agg as] [.agg bs] r
  | nil {as bs : List AV} : EqS E (.inr []) as bs true
  | cons {off ft : Nat} {fs : List (Nat × Nat)} {j : TI} {as bs : List AV} {x y : AV} {r r' : Bool} (hj : lookT E.T ft = some j) (hx : partA j as off = some x) (hy : partA j bs off = some y)
      (h : EqS E (.inl ft) [x] [y] r) (ht : EqS E (.inr fs) as bs r') : EqS E (.inr ((off, ft) :: fs)) as bs (r && r')

theorem lookT_d {E : Env} {t : Nat} {d : TD} (h : (lookT E.T t).map TI.d = some d) : ∃ i u, lookT E.T t = some i ∧ E.P.underlying t = some u ∧ d.ok u := by
  obtain ⟨i, hi, hd⟩ := Option.map_eq_some_iff.1 h
  obtain ⟨u, hu, hok⟩ := (Env.ti hi).u
  exact ⟨i, u, hi, hu, by rw [← hd]; exact hok⟩

theorem info_of_look {E : Env} {t : Nat} {i : TI} (h : lookT E.T t = some i) : ∃ info, E.P.info? t = some info ∧ info.size = i.sz := by
  obtain ⟨info, h1, h2, h3, h4⟩ := ext_info h
  exact ⟨info, h1, h3⟩

theorem cellsOf_look {E : Env} {t : Nat} {i : TI} (h : lookT E.T t = some i) : E.P.cellsOf t = i.sz := by
  obtain ⟨info, h1, h2⟩ := info_of_look h
  simp [Program.cellsOf, h1, h2]

theorem drop_cons {xs : List AV} {k : Nat} {a : AV} (h : xs[k]? = some a) : xs.drop k = a :: xs.drop (k + 1) := by
  obtain ⟨hlt, rfl⟩ := List.getElem?_eq_some_iff.1 h
  exact List.drop_eq_getElem_cons hlt

theorem run_eqItems_bytes {E : Env} {c : Cfg} {e : Nat} {k q : IntKind} {j : TI} (dd : Nat) (hj : lookT E.T e = some j) (hd : j.d = .int k) (hz : j.sz = 1) {as bs : List AV} {ws us : List Value} (hw : RelL c as ws) (hu : RelL c bs us)
    (h3 : ∀ a ∈ as, ∃ v, a = .int q v) (h4 : ∀ a ∈ bs, ∃ v, a = .int q v) (hl : as.length = bs.length) : ∀ (m s : Nat), s + m = as.length →
    (Op.eqItems (dd + 1) e 1 ws.toArray us.toArray (List.range' s m)).run E.P c.w = .ok (eqAL (as.drop s) (bs.drop s)) c.w
  | 0, s, h => by
    rw [List.drop_eq_nil_of_le (by omega), List.drop_eq_nil_of_le (by omega)]
    simp [Op.eqItems, eqAL]
  | m + 1, s, h => by
    have ha : as[s]? = some as[s] := List.getElem?_eq_getElem (by omega)
    have hb : bs[s]? = some bs[s] := List.getElem?_eq_getElem (by omega)
    obtain ⟨u, hu1, hok⟩ := (Env.ti hj).u
    rw [hd] at hok
    have hok' : u = .int k := hok
    subst hok'
    obtain ⟨va, ea⟩ := h3 _ (List.getElem_mem (by omega : s < as.length))
    obtain ⟨vb, eb⟩ := h4 _ (List.getElem_mem (by omega : s < bs.length))
    have p1 : partA j as s = some (.int q va) := by unfold partA; rw [hd]; show as[s]? = _; rw [ha, ea]
    have p2 : partA j bs s = some (.int q vb) := by unfold partA; rw [hd]; show bs[s]? = _; rw [hb, eb]
    obtain ⟨r1, g1, g2⟩ := part_sound hj hw p1
    obtain ⟨r2, g3, g4⟩ := part_sound hj hu p2
    cases g2; cases g4
    rw [List.range'_succ]
    unfold Op.eqItems
    simp only [Nat.mul_one, Sem.run_bind, g1, g3, Result.andThen_ok]
    have he : (Op.equalIn (dd + 1) e (.int q va) (.int q vb)).run E.P c.w = .ok (va == vb) c.w := by
      simp only [Op.equalIn, Sem.run_bind, run_underlying hu1, Result.andThen_ok, if_true, Sem.run_pure]
    rw [he, drop_cons ha, drop_cons hb, ea, eb]
    simp only [Result.andThen_ok, eqAL, beq1]
    have ih := run_eqItems_bytes dd hj hd hz hw hu h3 h4 hl m (s + 1) (by omega)
    cases hc : (va == vb) with
    | false => simp
    | true => simpa using ih

theorem eqS_sound {E : Env} {c : Cfg} {z : Nat ⊕ List (Nat × Nat)} {xs ys : List AV} {b : Bool} (h : EqS E z xs ys b) :
    match z with
    | .inl t => ∀ (m d : Nat) (x y : AV) (u v : Value), xs = [x] → ys = [y] → E.P.keyTypeAt m t = true → RelV c x u → RelV c y v → (Op.equalIn (d + m) t u v).run E.P c.w = .ok b c.w
    | .inr fs => ∀ (m d : Nat) (gs : List Field) (ws us : List Value), gs.map (fun f => (f.offset, f.type)) = fs → (∀ g ∈ gs, g.name ≠ "_" ∧ E.P.keyTypeAt m g.type = true) → RelL c xs ws → RelL c ys us →
        (Op.eqFields (d + m) ws.toArray us.toArray gs).run E.P c.w = .ok b c.w := by
  induction h with
  | @int t k q a b' h =>
    intro m d x y u v hx hy hk hu hv
    injection hx with hx; injection hy with hy; subst hx; subst hy
    obtain ⟨i, w, hi, hw, hok⟩ := lookT_d h
    have hok' : w = .int k := hok
    subst hok'
    cases m with
    | zero => simp [Program.keyTypeAt] at hk
    | succ m =>
      cases hu; cases hv
      show (Op.equalIn (d + m + 1) t _ _).run E.P c.w = _
      simp only [Op.equalIn, Sem.run_bind, run_underlying hw, Result.andThen_ok, if_true, Sem.run_pure]
  | @bool t a b' h =>
    intro m d x y u v hx hy hk hu hv
    injection hx with hx; injection hy with hy; subst hx; subst hy
    obtain ⟨i, w, hi, hw, hok⟩ := lookT_d h
    have hok' : w = .bool := hok
    subst hok'
    cases m with
    | zero => simp [Program.keyTypeAt] at hk
    | succ m =>
      cases hu; cases hv
      show (Op.equalIn (d + m + 1) t _ _).run E.P c.w = _
      simp only [Op.equalIn, Sem.run_bind, run_underlying hw, Result.andThen_ok, if_true, Sem.run_pure]
  | @str t a b' h =>
    intro m d x y u v hx hy hk hu hv
    injection hx with hx; injection hy with hy; subst hx; subst hy
    obtain ⟨i, w, hi, hw, hok⟩ := lookT_d h
    have hok' : w = .string := hok
    subst hok'
    cases m with
    | zero => simp [Program.keyTypeAt] at hk
    | succ m =>
      cases hu; cases hv
      show (Op.equalIn (d + m + 1) t _ _).run E.P c.w = _
      simp only [Op.equalIn, Sem.run_bind, run_underlying hw, Result.andThen_ok, if_true, Sem.run_pure, beq_toListBytes, toList_mk]
  | @bytes t e n k q as bs h he h1 h2 h3 h4 =>
    intro m d x y u v hx hy hk hu hv
    injection hx with hx; injection hy with hy; subst hx; subst hy
    obtain ⟨i, w, hi, hw, hok⟩ := lookT_d h
    have hok' : w = .array n e := hok
    subst hok'
    obtain ⟨j, hj, hje⟩ := Option.map_eq_some_iff.1 he
    simp only [Prod.mk.injEq] at hje
    obtain ⟨info, hinfo, _⟩ := info_of_look hj
    cases m with
    | zero => simp [Program.keyTypeAt] at hk
    | succ m =>
      cases hu with
      | agg ws hl hr =>
        cases hv with
        | agg us hl' hr' =>
          show (Op.equalIn (d + m + 1) t _ _).run E.P c.w = _
          rw [run_equalIn_array c.w (d + m) _ _ hw hinfo, cellsOf_look hj, hje.2, List.range_eq_range']
          have hm : ∃ m', m = m' + 1 := by
            cases m with
            | zero =>
              exfalso
              unfold Program.keyTypeAt at hk
              rw [hw] at hk
              simp [Program.keyTypeAt] at hk
            | succ m' => exact ⟨m', rfl⟩
          obtain ⟨m', rfl⟩ := hm
          have := run_eqItems_bytes (d + m') hj hje.1 hje.2 ⟨hl, hr⟩ ⟨hl', hr'⟩ h3 h4 (by omega) n 0 (by omega)
          rw [List.drop_zero, List.drop_zero] at this
          exact this
  | @struct t fs as bs r h hf ih =>
    intro m d x y u v hx hy hk hu hv
    injection hx with hx; injection hy with hy; subst hx; subst hy
    obtain ⟨i, w, hi, hw, hok⟩ := lookT_d h
    obtain ⟨gs, rfl, hgs⟩ := hok
    cases m with
    | zero => simp [Program.keyTypeAt] at hk
    | succ m =>
      unfold Program.keyTypeAt at hk
      rw [hw] at hk
      simp only [Bool.and_eq_true, Bool.not_eq_true', Array.all_eq_true_iff_forall_mem, bne_iff_ne, ne_eq] at hk
      obtain ⟨⟨hk1, hk2⟩, hk3⟩ := hk
      have hfo : E.P.fieldsOf t = gs := by simp [Program.fieldsOf, hw]
      cases hu with
      | agg ws hl hr =>
        cases hv with
        | agg us hl' hr' =>
          show (Op.equalIn (d + m + 1) t _ _).run E.P c.w = _
          rw [run_equalIn_struct c.w (d + m) t _ _ (by rw [hfo]; exact hw) hk3, hfo]
          exact ih m d gs.toList ws us hgs (fun g hg => hk1 g (by simpa using hg)) ⟨hl, hr⟩ ⟨hl', hr'⟩
  | nil =>
    intro m d gs ws us hg _ _ _
    have : gs = [] := List.map_eq_nil_iff.1 hg
    subst this
    simp [Op.eqFields]
  | @cons off ft fs j as bs x y r r' hj hx hy h ht ih1 ih2 =>
    intro m d gs ws us hg hn hw hu
    cases gs with
    | nil => simp at hg
    | cons g gs =>
      simp only [List.map_cons, List.cons.injEq, Prod.mk.injEq] at hg
      obtain ⟨⟨rfl, rfl⟩, hg2⟩ := hg
      obtain ⟨n1, n2⟩ := hn g List.mem_cons_self
      obtain ⟨a, p1, p2⟩ := part_sound hj hw hx
      obtain ⟨b, p3, p4⟩ := part_sound hj hu hy
      have e1 := ih1 m d x y a b rfl rfl n2 p2 p4
      have e2 := ih2 m d gs ws us hg2 (fun g' hg' => hn g' (List.mem_cons_of_mem _ hg')) hw hu
      simp only [Op.eqFields, n1, ne_eq, not_false_eq_true, if_true, Sem.run_bind, p1, p3, e1, Result.andThen_ok]
      cases r with
      | false => simp
      | true => simpa using e2

structure KeyT (E : Env) (t : Nat) : Prop where
  key : E.P.keyTypeAt 9 t = true
  free : E.P.eqGuardType E.P.depth t = false

theorem eqA_sound {E : Env} {c : Cfg} {t : Nat} {x y : AV} {u v : Value} {b : Bool} {ox oy : Operand} (hk : KeyT E t) (h : EqS E (.inl t) [x] [y] b) (hu : RelV c x u) (hv : RelV c y v) (neg : Bool) :
    (do eqGuard (bif neg then .neq else .eql) t ox oy u v; binOp (bif neg then .neq else .eql) t u v).run E.P c.w = .ok (.bool (b != neg)) c.w := by
  have h1 := eqS_sound (c := c) h 9 9991 x y u v rfl rfl hk.key hu hv
  have h2 : (Op.equal t u v).run E.P c.w = .ok b c.w := h1
  have hb1 : (do pure (Value.bool (← Op.equal t u v)) : Sem Value).run E.P c.w = .ok (.bool b) c.w := by rw [Sem.run_bind, h2]; rfl
  have hb2 : (do pure (Value.bool (!(← Op.equal t u v))) : Sem Value).run E.P c.w = .ok (.bool !b) c.w := by rw [Sem.run_bind, h2]; rfl
  cases h with
  | int h =>
    cases hu; cases hv
    rw [Sem.run_bind, eqGuard_plain (by simp) (by simp)]
    cases neg <;> simp [binOp, Op.intCmp] <;> rfl
  | bool h =>
    cases hu; cases hv
    rw [Sem.run_bind, eqGuard_plain (by simp) (by simp)]
    cases neg
    · simp only [cond_false, Result.andThen_ok, Bool.bne_false]; exact hb1
    · simp only [cond_true, Result.andThen_ok, Bool.bne_true]; exact hb2
  | str h =>
    cases hu; cases hv
    rw [Sem.run_bind, eqGuard_plain (by simp) (by simp)]
    cases neg <;> simp [binOp, Op.stringOp, toList_mk] <;> rfl
  | bytes =>
    cases hu with
    | agg ws hl hr =>
      cases hv with
      | agg us hl' hr' =>
        have hg : ∀ op, (eqGuard op t ox oy (.agg ws.toArray) (.agg us.toArray)).run E.P c.w = .ok () c.w := fun op => by
          cases op <;> simp [eqGuard, hk.free]
        rw [Sem.run_bind, hg]
        cases neg
        · simp only [cond_false, Result.andThen_ok, Bool.bne_false]; exact hb1
        · simp only [cond_true, Result.andThen_ok, Bool.bne_true]; exact hb2
  | struct =>
    cases hu with
    | agg ws hl hr =>
      cases hv with
      | agg us hl' hr' =>
        have hg : ∀ op, (eqGuard op t ox oy (.agg ws.toArray) (.agg us.toArray)).run E.P c.w = .ok () c.w := fun op => by
          cases op <;> simp [eqGuard, hk.free]
        rw [Sem.run_bind, hg]
        cases neg
        · simp only [cond_false, Result.andThen_ok, Bool.bne_false]; exact hb1
        · simp only [cond_true, Result.andThen_ok, Bool.bne_true]; exact hb2
/-- Bytes as cells. -/
abbrev u8 (b : UInt8) : AV := .int .u8 b.toNat
end Go.Gp

/- One rule for each kind of operation that yields a value, in a statement of fixed order and in one of open order. -/
namespace Go.Gp
open Go.RowKit
set_option linter.unusedVariables false
set_option linter.unusedSimpArgs false

structure P1 (E : Env) (n : Nat) (H H1 : List AObj) (o : Oper) (t : Slots) (av : AV) : Prop where
  nd : notDefer o
  out : ∀ (c : Cfg) (a : Act), c.H = H → Ok E.G c → SR c n t a → ∃ v ι' w', (execOp a.eval o).run E.P c.w = .ok (.value v) w' ∧ Ext c ⟨ι', H1, w'⟩ ∧ HR ⟨ι', H1, w'⟩ ∧ RelV ⟨ι', H1, w'⟩ av v

section
variable {E : Env} {ro : Option Nat} {n : Nat} {K : Kont} {t : Slots} {H H1 L : List AObj} {ops : Array Oper} {o : Oper} {rest : List Oper} {Kc : Slots → Prop}

theorem WpOps.p1 {d : Nat} {av : AV} (hw : wantedA ops t o = some true) (hd : o.dst = some d) (hdn : Nat.blt d n = true) (h : P1 E n H H1 o t av)
    (hk : WpOps E ro n ops rest K ((d, av) :: t) H1) : WpOps E ro n ops (o :: rest) K t H := .value hw hd hdn h.nd h.out hk

theorem LexA.p1 {d : Nat} {av : AV} (hw : wantedA ops t o = some true) (hd : o.dst = some d) (hdn : Nat.blt d n = true) (h : P1 E n H H o (cutT (o.looksAt ops) t) av)
    (hk : LexA E ro n H ops Kc rest ((d, av) :: t)) : LexA E ro n H ops Kc (o :: rest) t := .value av hw hd hdn h.nd h.out hk

/-- A value that leaves the world alone. -/
theorem P1.still {av : AV} (hnd : notDefer o) (h : ∀ (c : Cfg) (a : Act), c.H = H → Ok E.G c → SR c n t a → ∃ v, (execOp a.eval o).run E.P c.w = .ok (.value v) c.w ∧ RelV c av v) : P1 E n H H o t av :=
  ⟨hnd, fun c a hH ho s => by
    obtain ⟨v, h1, h2⟩ := h c a hH ho s
    exact ⟨v, c.ι, c.w, h1, by rw [← hH]; exact Ext.refl c, by rw [← hH]; exact ho.hr, by rw [← hH]; exact h2⟩⟩

theorem valA_congr {op : Op} {t' : Slots} (h : ∀ x ∈ op.operands, evalA E.G t' x = evalA E.G t x ∧ evalO E.G t' x = evalO E.G t x) : valA E t' L op = valA E t L op := by
  cases op <;> (try rfl) <;> simp only [Op.operands] at h
  case move x => exact (h x (by simp)).2
  case assign x => exact (h x (by simp)).2
  case pick c a b =>
    unfold valA
    simp only [(h c (by simp)).1, (h a (by simp)).2, (h b (by simp)).2]
  case load ty x => unfold valA; simp only [(h x (by simp)).1]
  case fieldAddr s x f => unfold valA; simp only [(h x (by simp)).1]
  case field s x f => unfold valA; simp only [(h x (by simp)).1]
  case extract x i => unfold valA; simp only [(h x (by simp)).1]
  case unOp u ty x => cases u <;> (try rfl) <;> (unfold valA; simp only [(h x (by simp)).1])
  case binOp op ty x y yt => unfold valA; simp only [(h x (by simp)).1, (h y (by simp)).1]
  case convert src dst x => unfold valA; simp only [(h x (by simp)).1]
  case makeFunc f fs cs =>
    obtain ⟨fs⟩ := fs
    obtain ⟨cs⟩ := cs
    cases f <;> (try rfl)
    cases fs <;> (try rfl)
    unfold valA
    simp only
    rw [evalL_congr fun x hx => (h x (by simp [hx])).1]
  case nilCheck x => unfold valA; simp only [(h x (by simp)).1]
  case call c =>
    obtain ⟨callee, args, ats⟩ := c
    obtain ⟨args⟩ := args
    obtain ⟨ats⟩ := ats
    cases callee <;> (try rfl)
    rename_i b
    cases b <;> (try rfl)
    cases args with
    | nil => rfl
    | cons x xs =>
      cases xs with
      | cons => rfl
      | nil =>
        cases ats with
        | nil => rfl
        | cons ty tys =>
          cases tys with
          | cons => rfl
          | nil =>
            unfold valA
            simp only [(h x (by simp [Call.operands])).1]

theorem baseN_congr {n0 : Nat} {op : Op} {t' : Slots} (h : ∀ x ∈ op.operands, evalA E.G t' x = evalA E.G t x) : baseN E n0 t' op = baseN E n0 t op := by
  cases op <;> (try rfl)
  rename_i ty x
  unfold baseN
  simp only [h x (by simp [Op.operands])]

theorem P1.op {av : AV} (hv : valA E t L o.op = some av) (hb : baseN E H.length t o.op = H.length) : P1 E n (H ++ L) (H ++ L) o t av :=
  .still (valA_notDefer hv) fun c a hH ho s => valA_sound hH rfl ho s hv hb

theorem LexA.op {d : Nat} (av : AV) (hw : wantedA ops t o = some true) (hd : o.dst = some d) (hdn : Nat.blt d n = true) (hv : valA E t L o.op = some av) (hb : baseN E H.length t o.op = H.length)
    (hk : LexA E ro n (H ++ L) ops Kc rest ((d, av) :: t)) : LexA E ro n (H ++ L) ops Kc (o :: rest) t :=
  .p1 hw hd hdn (.op (by rw [valA_congr fun x hx => ⟨evalA_cut hx, evalO_cut hx⟩]; exact hv) (by rw [baseN_congr fun x hx => evalA_cut hx]; exact hb)) hk

/-! ### Elements -/
theorem P1.elem {ty e z : Nat} {j : TI} {x ix : Operand} {tg : Tag} {xs : List (List AV)} {k : IntKind} {i : Int} {l : List AV} (hop : o.op = .indexAddr ty x ix)
    (hs : sliceOf E.T ty = some (e, j)) (hx : evalA E.G t x = .sl tg z xs) (hi : evalA E.G t ix = .int k i) (hz : j.sz = z) (hz0 : Nat.blt 0 z = true) (h0 : 0 ≤ i) (hl : xs[i.toNat]? = some l) : P1 E n H H o t (.rp l) :=
  .still (fun cc e => by rw [hop] at e; cases e) (fun c a hH ho s => by
    obtain ⟨hu, hj⟩ := sliceOf_spec hs
    have hxr := eval_rel ho s x
    rw [hx] at hxr
    have hir := eval_rel ho s ix
    rw [hi] at hir
    generalize hv : a.eval x = v at hxr
    generalize hv2 : a.eval ix = v2 at hir
    cases hir
    cases hxr with
    | sl vs hlen hc hzz ht hf hr =>
      rename_i ad len cap
      have hlt : i.toNat < len := by rw [← hlen]; exact (List.getElem?_eq_some_iff.1 hl).1
      have hll : l.length = z := hzz l (List.mem_of_getElem? hl)
      have hrp : ∀ p, ad = some p → p.spot = none → RelV c (.rp l) (.pointer (some (p.add (i.toNat * z)))) := fun p hp hsp => by
        refine .rp (fun q => vs i.toNat q) (addr_add_spot p hsp _) (fun q hq => ?_) (fun q e he => hr _ _ l e hl he)
        obtain ⟨ad', e1, e2, e3⟩ := hf i.toNat q hlt (by omega)
        rw [hp] at e1
        injection e1 with e1
        subst e1
        rw [addr_add_add p hsp]
        exact e3
      cases ad with
      | none =>
        obtain ⟨ad', e1, _⟩ := hf i.toNat 0 hlt (by simpa using hz0)
        cases e1
      | some p =>
        have hsp : p.spot = none := by
          obtain ⟨ad', e1, e2, _⟩ := hf i.toNat 0 hlt (by simpa using hz0)
          injection e1 with e1
          subst e1
          exact e2
        refine ⟨_, ?_, hrp p rfl hsp⟩
        have hb : 0 ≤ i ∧ i < (len : Int) := ⟨h0, by omega⟩
        simp [execOp, hop, hv, hv2, Instr.indexAt, asIntOf, run_underlying hu, hb, run_sizeOf hj, hz])

theorem P1.indexS {ty : Nat} {x ix : Operand} {s : List UInt8} {k : IntKind} {i : Int} {b : UInt8} (hop : o.op = .index ty x ix)
    (hs : (lookT E.T ty).map TI.d = some .str) (hx : evalA E.G t x = .str s) (hi : evalA E.G t ix = .int k i) (h0 : 0 ≤ i) (hl : s[i.toNat]? = some b) : P1 E n H H o t (.int .u8 b.toNat) :=
  .still (fun cc e => by rw [hop] at e; cases e) (fun c a hH ho sr => by
    obtain ⟨j, u, hj, hu, hok⟩ := lookT_d hs
    have hok' : u = .string := hok
    subst hok'
    have hxr := eval_rel ho sr x
    rw [hx] at hxr
    have hir := eval_rel ho sr ix
    rw [hi] at hir
    generalize hv : a.eval x = v at hxr
    generalize hv2 : a.eval ix = v2 at hir
    cases hir
    cases hxr
    refine ⟨_, ?_, .int⟩
    have hg : (ByteArray.mk s.toArray)[i.toNat]? = some b := by
      show s.toArray[i.toNat]? = some b
      simpa using hl
    simp [execOp, hop, hv, hv2, Instr.index, asIntOf, run_underlying hu, h0, hg])

theorem P1.indexA {ty m : Nat} {x ix : Operand} {j : TI} {cs : List AV} {k : IntKind} {i : Int} {av : AV} (hop : o.op = .index ty x ix)
    (hs : arrayOf E.T ty = some (m, j)) (hx : evalA E.G t x = .agg cs) (hi : evalA E.G t ix = .int k i) (h0 : 0 ≤ i) (h1 : i < m) (hl : partA j cs (i.toNat * j.sz) = some av) : P1 E n H H o t av :=
  .still (fun cc e => by rw [hop] at e; cases e) (fun c a hH ho sr => by
    obtain ⟨e, hu, hj⟩ := arrayOf_spec hs
    have hxr := eval_rel ho sr x
    rw [hx] at hxr
    have hir := eval_rel ho sr ix
    rw [hi] at hir
    generalize hv : a.eval x = v at hxr
    generalize hv2 : a.eval ix = v2 at hir
    cases hir
    cases hxr with
    | agg ws hll hr =>
      obtain ⟨r, h2, h3⟩ := part_sound hj ⟨hll, hr⟩ hl
      refine ⟨r, ?_, h3⟩
      simp [execOp, hop, hv, hv2, Instr.index, asIntOf, run_underlying hu, h0, h1, run_sizeOf hj, h2])

/-- '==' and '!=' of structs and arrays. -/
theorem P1.eqA {ty : Nat} {x y : Operand} {yt : TypeId} {p q : AV} {b : Bool} (neg : Bool) (hop : o.op = .binOp (bif neg then .neq else .eql) ty x y yt) (hx : evalA E.G t x = p) (hy : evalA E.G t y = q) (hk : KeyT E ty) (h : EqS E (.inl ty) [p] [q] b) :
    P1 E n H H o t (.bool (b != neg)) :=
  .still (fun cc e => by rw [hop] at e; cases e) (fun c a hH ho sr => by
    have hxr := eval_rel ho sr x
    rw [hx] at hxr
    have hyr := eval_rel ho sr y
    rw [hy] at hyr
    have := eqA_sound (c := c) (ox := x) (oy := y) hk h hxr hyr neg
    refine ⟨_, ?_, .bool⟩
    simp only [execOp, hop, Sem.run_bind] at this ⊢
    rw [this]
    rfl)

/-! ### Shifts, quotients -/
def shA (op : BinOp) (x y : AV) : Option AV :=
  match x, y with
  | .int k a, .int _ (.ofNat b) => match op with
    | .shl => some (.int k (k.wrap (a * 2 ^ min b k.bits)))
    | .shr => some (.int k (a.fdiv (2 ^ min b k.bits)))
    | _ => none
  | _, _ => none

theorem P1.sh {op : BinOp} {ty : Nat} {x y : Operand} {yt : TypeId} {av : AV} (hop : o.op = .binOp op ty x y yt) (h : shA op (evalA E.G t x) (evalA E.G t y) = some av) : P1 E n H H o t av :=
  .still (fun cc e => by rw [hop] at e; cases e) (fun c a hH ho sr => by
    have hxr := eval_rel ho sr x
    have hyr := eval_rel ho sr y
    unfold shA at h
    split at h
    · rename_i k p k' q hx hy
      rw [hx] at hxr
      rw [hy] at hyr
      generalize hv : a.eval x = v at hxr
      generalize hv2 : a.eval y = v2 at hyr
      cases hxr; cases hyr
      split at h
      · injection h with h; subst h
        refine ⟨_, ?_, .int⟩
        simp only [execOp, hop, hv, hv2, Sem.run_bind]
        rw [eqGuard_plain (by simp) (by simp)]
        simp [binOp, Op.shift]
        intro h
        omega
      · injection h with h; subst h
        refine ⟨_, ?_, .int⟩
        simp only [execOp, hop, hv, hv2, Sem.run_bind]
        rw [eqGuard_plain (by simp) (by simp)]
        simp [binOp, Op.shift]
        intro h
        omega
      · simp at h
    · simp at h)
end

section
variable {E : Env} {ro : Option Nat} {n : Nat} {K : Kont} {t : Slots} {H H1 L : List AObj} {ops : Array Oper} {o : Oper} {rest : List Oper} {Kc : Slots → Prop}

theorem cut_tmp2 {t : Slots} {ty : Nat} {x ix : Operand} (hop : o.op = .index ty x ix) : evalA E.G (cutT (o.looksAt ops) t) x = evalA E.G t x ∧ evalA E.G (cutT (o.looksAt ops) t) ix = evalA E.G t ix :=
  ⟨evalA_cut (by rw [hop]; simp [Op.operands]), evalA_cut (by rw [hop]; simp [Op.operands])⟩
theorem cut_tmp2' {t : Slots} {ty : Nat} {x ix : Operand} (hop : o.op = .indexAddr ty x ix) : evalA E.G (cutT (o.looksAt ops) t) x = evalA E.G t x ∧ evalA E.G (cutT (o.looksAt ops) t) ix = evalA E.G t ix :=
  ⟨evalA_cut (by rw [hop]; simp [Op.operands]), evalA_cut (by rw [hop]; simp [Op.operands])⟩
theorem cut_bin {t : Slots} {op : BinOp} {ty : Nat} {x y : Operand} {yt : TypeId} (hop : o.op = .binOp op ty x y yt) : evalA E.G (cutT (o.looksAt ops) t) x = evalA E.G t x ∧ evalA E.G (cutT (o.looksAt ops) t) y = evalA E.G t y :=
  ⟨evalA_cut (by rw [hop]; simp [Op.operands]), evalA_cut (by rw [hop]; simp [Op.operands])⟩

theorem LexA.elem {d ty e z : Nat} {j : TI} {x ix : Operand} {tg : Tag} {xs : List (List AV)} {k : IntKind} {i : Int} (l : List AV) (hw : wantedA ops t o = some true) (hd : o.dst = some d) (hdn : Nat.blt d n = true) (hop : o.op = .indexAddr ty x ix)
    (hs : sliceOf E.T ty = some (e, j)) (hx : evalA E.G t x = .sl tg z xs) (hi : evalA E.G t ix = .int k i) (hz : j.sz = z) (hz0 : Nat.blt 0 z = true) (h0 : 0 ≤ i) (hl : xs[i.toNat]? = some l)
    (hk : LexA E ro n H ops Kc rest ((d, .rp l) :: t)) : LexA E ro n H ops Kc (o :: rest) t :=
  .p1 hw hd hdn (.elem hop hs (by rw [(cut_tmp2' hop).1]; exact hx) (by rw [(cut_tmp2' hop).2]; exact hi) hz hz0 h0 hl) hk

theorem WpOps.indexS {d ty : Nat} {x ix : Operand} {s : List UInt8} {k : IntKind} {i : Int} (b : UInt8) (hw : wantedA ops t o = some true) (hd : o.dst = some d) (hdn : Nat.blt d n = true) (hop : o.op = .index ty x ix)
    (hs : (lookT E.T ty).map TI.d = some .str) (hx : evalA E.G t x = .str s) (hi : evalA E.G t ix = .int k i) (h0 : 0 ≤ i) (hl : s[i.toNat]? = some b)
    (hk : WpOps E ro n ops rest K ((d, .int .u8 b.toNat) :: t) H) : WpOps E ro n ops (o :: rest) K t H := .p1 hw hd hdn (.indexS hop hs hx hi h0 hl) hk

theorem LexA.indexS {d ty : Nat} {x ix : Operand} {s : List UInt8} {k : IntKind} {i : Int} (b : UInt8) (hw : wantedA ops t o = some true) (hd : o.dst = some d) (hdn : Nat.blt d n = true) (hop : o.op = .index ty x ix)
    (hs : (lookT E.T ty).map TI.d = some .str) (hx : evalA E.G t x = .str s) (hi : evalA E.G t ix = .int k i) (h0 : 0 ≤ i) (hl : s[i.toNat]? = some b)
    (hk : LexA E ro n H ops Kc rest ((d, .int .u8 b.toNat) :: t)) : LexA E ro n H ops Kc (o :: rest) t :=
  .p1 hw hd hdn (.indexS hop hs (by rw [(cut_tmp2 hop).1]; exact hx) (by rw [(cut_tmp2 hop).2]; exact hi) h0 hl) hk

theorem WpOps.indexA {d ty m : Nat} {x ix : Operand} {j : TI} {cs : List AV} {k : IntKind} {i : Int} (av : AV) (hw : wantedA ops t o = some true) (hd : o.dst = some d) (hdn : Nat.blt d n = true) (hop : o.op = .index ty x ix)
    (hs : arrayOf E.T ty = some (m, j)) (hx : evalA E.G t x = .agg cs) (hi : evalA E.G t ix = .int k i) (h0 : 0 ≤ i) (h1 : i < m) (hl : partA j cs (i.toNat * j.sz) = some av)
    (hk : WpOps E ro n ops rest K ((d, av) :: t) H) : WpOps E ro n ops (o :: rest) K t H := .p1 hw hd hdn (.indexA hop hs hx hi h0 h1 hl) hk

theorem LexA.indexA {d ty m : Nat} {x ix : Operand} {j : TI} {cs : List AV} {k : IntKind} {i : Int} (av : AV) (hw : wantedA ops t o = some true) (hd : o.dst = some d) (hdn : Nat.blt d n = true) (hop : o.op = .index ty x ix)
    (hs : arrayOf E.T ty = some (m, j)) (hx : evalA E.G t x = .agg cs) (hi : evalA E.G t ix = .int k i) (h0 : 0 ≤ i) (h1 : i < m) (hl : partA j cs (i.toNat * j.sz) = some av)
    (hk : LexA E ro n H ops Kc rest ((d, av) :: t)) : LexA E ro n H ops Kc (o :: rest) t :=
  .p1 hw hd hdn (.indexA hop hs (by rw [(cut_tmp2 hop).1]; exact hx) (by rw [(cut_tmp2 hop).2]; exact hi) h0 h1 hl) hk

theorem WpOps.eqA {d ty : Nat} {x y : Operand} {yt : TypeId} {p q : AV} {b : Bool} (hw : wantedA ops t o = some true) (hd : o.dst = some d) (hdn : Nat.blt d n = true) (hop : o.op = .binOp .eql ty x y yt) (hx : evalA E.G t x = p) (hy : evalA E.G t y = q)
    (hk' : KeyT E ty) (h : EqS E (.inl ty) [p] [q] b) (hk : WpOps E ro n ops rest K ((d, .bool b) :: t) H) : WpOps E ro n ops (o :: rest) K t H :=
  .p1 (av := .bool b) hw hd hdn (by have := P1.eqA (n := n) (H := H) false hop hx hy hk' h; rwa [Bool.bne_false] at this) hk
theorem WpOps.neA {d ty : Nat} {x y : Operand} {yt : TypeId} {p q : AV} {b : Bool} (hw : wantedA ops t o = some true) (hd : o.dst = some d) (hdn : Nat.blt d n = true) (hop : o.op = .binOp .neq ty x y yt) (hx : evalA E.G t x = p) (hy : evalA E.G t y = q)
    (hk' : KeyT E ty) (h : EqS E (.inl ty) [p] [q] b) (hk : WpOps E ro n ops rest K ((d, .bool !b) :: t) H) : WpOps E ro n ops (o :: rest) K t H :=
  .p1 (av := .bool !b) hw hd hdn (by have := P1.eqA (n := n) (H := H) true hop hx hy hk' h; rwa [Bool.bne_true] at this) hk
theorem LexA.eqA {d ty : Nat} {x y : Operand} {yt : TypeId} {p q : AV} {b : Bool} (hw : wantedA ops t o = some true) (hd : o.dst = some d) (hdn : Nat.blt d n = true) (hop : o.op = .binOp .eql ty x y yt) (hx : evalA E.G t x = p) (hy : evalA E.G t y = q)
    (hk' : KeyT E ty) (h : EqS E (.inl ty) [p] [q] b) (hk : LexA E ro n H ops Kc rest ((d, .bool b) :: t)) : LexA E ro n H ops Kc (o :: rest) t :=
  .p1 (av := .bool b) hw hd hdn (by have := P1.eqA (n := n) (H := H) false hop ((cut_bin (ops := ops) (t := t) hop).1.trans hx) ((cut_bin (ops := ops) (t := t) hop).2.trans hy) hk' h; rwa [Bool.bne_false] at this) hk
theorem LexA.neA {d ty : Nat} {x y : Operand} {yt : TypeId} {p q : AV} {b : Bool} (hw : wantedA ops t o = some true) (hd : o.dst = some d) (hdn : Nat.blt d n = true) (hop : o.op = .binOp .neq ty x y yt) (hx : evalA E.G t x = p) (hy : evalA E.G t y = q)
    (hk' : KeyT E ty) (h : EqS E (.inl ty) [p] [q] b) (hk : LexA E ro n H ops Kc rest ((d, .bool !b) :: t)) : LexA E ro n H ops Kc (o :: rest) t :=
  .p1 (av := .bool !b) hw hd hdn (by have := P1.eqA (n := n) (H := H) true hop ((cut_bin (ops := ops) (t := t) hop).1.trans hx) ((cut_bin (ops := ops) (t := t) hop).2.trans hy) hk' h; rwa [Bool.bne_true] at this) hk

theorem WpOps.sh {d : Nat} {op : BinOp} {ty : Nat} {x y : Operand} {yt : TypeId} (av : AV) (hw : wantedA ops t o = some true) (hd : o.dst = some d) (hdn : Nat.blt d n = true) (hop : o.op = .binOp op ty x y yt) (h : shA op (evalA E.G t x) (evalA E.G t y) = some av)
    (hk : WpOps E ro n ops rest K ((d, av) :: t) H) : WpOps E ro n ops (o :: rest) K t H := .p1 hw hd hdn (.sh hop h) hk
theorem LexA.sh {d : Nat} {op : BinOp} {ty : Nat} {x y : Operand} {yt : TypeId} (av : AV) (hw : wantedA ops t o = some true) (hd : o.dst = some d) (hdn : Nat.blt d n = true) (hop : o.op = .binOp op ty x y yt) (h : shA op (evalA E.G t x) (evalA E.G t y) = some av)
    (hk : LexA E ro n H ops Kc rest ((d, av) :: t)) : LexA E ro n H ops Kc (o :: rest) t :=
  .p1 hw hd hdn (.sh hop (by rw [(cut_bin (ops := ops) (t := t) hop).1, (cut_bin (ops := ops) (t := t) hop).2]; exact h)) hk
end
end Go.Gp

/- Structs, arrays and slices written out; appends. -/
namespace Go.Gp
open Go.RowKit
set_option linter.unusedVariables false
set_option linter.unusedSimpArgs false

theorem foldl_set_get : ∀ (l : List Value) (s off : Nat) (arr : Array Value), off + s + l.length ≤ arr.size →
    ((l.zipIdx s).foldl (fun cs (x : Value × Nat) => cs.setIfInBounds (off + x.2) x.1) arr).size = arr.size ∧
    ∀ k : Nat, ((l.zipIdx s).foldl (fun cs (x : Value × Nat) => cs.setIfInBounds (off + x.2) x.1) arr)[k]? = if off + s ≤ k ∧ k < off + s + l.length then l[k - (off + s)]? else arr[k]?
  | [], s, off, arr, h => ⟨rfl, fun k => by rw [if_neg (by simp only [List.length_nil]; omega)]; rfl⟩
  | v :: l, s, off, arr, h => by
    simp only [List.length_cons] at h
    rw [List.zipIdx_cons, List.foldl_cons]
    obtain ⟨h1, h2⟩ := foldl_set_get l (s + 1) off (arr.setIfInBounds (off + s) v) (by simp; omega)
    refine ⟨by simpa using h1, fun k => ?_⟩
    rw [h2 k, Array.getElem?_setIfInBounds]
    simp only [List.length_cons]
    by_cases hk1 : off + (s + 1) ≤ k ∧ k < off + (s + 1) + l.length
    · rw [if_pos hk1, if_pos (by omega), show k - (off + s) = (k - (off + (s + 1))) + 1 from by omega, List.getElem?_cons_succ]
    · rw [if_neg hk1]
      by_cases hk : off + s = k
      · rw [if_pos hk, if_pos (by omega), if_pos (by omega), ← hk, Nat.sub_self]
        rfl
      · rw [if_neg hk, if_neg (by omega)]

theorem fill_sound {c : Cfg} {place : Nat → Option (Nat × Nat)} : ∀ (ps : List (Nat × AV)) (qs : List (Nat × Value)) (cells : List AV) (vs : List Value) (out : List AV),
    ps.length = qs.length → (∀ (i : Nat) p q, ps[i]? = some p → qs[i]? = some q → p.1 = q.1 ∧ RelV c p.2 q.2) → RelL c cells vs → fillA place cells ps = some out →
    ∃ us, Instr.fill place vs.toArray qs = some us ∧ RelL c out us.toList
  | [], [], cells, vs, out, _, _, hr, h => by
    simp only [fillA, Option.some.injEq] at h
    subst h
    exact ⟨vs.toArray, rfl, by simpa using hr⟩
  | [], _ :: _, _, _, _, hl, _, _, _ => by simp at hl
  | _ :: _, [], _, _, _, hl, _, _, _ => by simp at hl
  | (i, x) :: ps, (i', v) :: qs, cells, vs, out, hl, hp, hr, h => by
    obtain ⟨hi, hv⟩ := hp 0 (i, x) (i', v) rfl rfl
    simp only at hi hv
    subst hi
    unfold fillA at h
    split at h <;> try (simp at h; done)
    rename_i off size cs hpl hcs
    cases hb : (Nat.beq cs.length size && Nat.ble (off + cs.length) cells.length) with
    | false => rw [hb] at h; simp at h
    | true =>
      rw [hb] at h
      simp only [cond_true] at h
      simp only [Bool.and_eq_true] at hb
      have h1 : cs.length = size := Nat.eq_of_beq_eq_true hb.1
      have h2 : off + cs.length ≤ cells.length := Nat.le_of_ble_eq_true hb.2
      have hcr := cellsA_rel hv hcs
      have hcl : v.cells.size = cs.length := by have := hcr.1; simp at this; omega
      have hvl := hr.1
      obtain ⟨g1, g2⟩ := foldl_set_get v.cells.toList 0 off vs.toArray (by simp; omega)
      unfold Instr.fill
      simp only [hpl]
      rw [if_neg (by simp; omega)]
      have e : v.cells.zipIdx.foldl (fun cs (x : Value × Nat) => cs.setIfInBounds (off + x.2) x.1) vs.toArray = (v.cells.toList.zipIdx 0).foldl (fun cs (x : Value × Nat) => cs.setIfInBounds (off + x.2) x.1) vs.toArray := by
        rw [← Array.foldl_toList, Array.toList_zipIdx]
      have hR : RelL c (cells.take off ++ cs ++ cells.drop (off + cs.length)) ((v.cells.toList.zipIdx 0).foldl (fun cs (x : Value × Nat) => cs.setIfInBounds (off + x.2) x.1) vs.toArray).toList := by
        have hlen : (cells.take off ++ cs ++ cells.drop (off + cs.length)).length = cells.length := by simp; omega
        refine ⟨hlen.trans (hvl.trans (g1.symm.trans Array.length_toList.symm)), fun k a u ha hu => ?_⟩
        rw [Array.getElem?_toList, g2 k] at hu
        simp only [Nat.add_zero, Array.length_toList, hcl] at hu
        have hl1 : (cells.take off).length = off := by rw [List.length_take]; omega
        by_cases hk1 : k < off
        · rw [if_neg (by omega)] at hu
          rw [List.append_assoc, List.getElem?_append_left (by omega), List.getElem?_take, if_pos hk1] at ha
          exact hr.2 k a u ha (by simpa using hu)
        · by_cases hk2 : k < off + cs.length
          · rw [if_pos (by omega)] at hu
            rw [List.getElem?_append_left (by rw [List.length_append]; omega), List.getElem?_append_right (by omega), hl1] at ha
            exact hcr.2 (k - off) a u ha hu
          · rw [if_neg (by omega)] at hu
            rw [List.getElem?_append_right (by rw [List.length_append]; omega), List.getElem?_drop, List.length_append, hl1] at ha
            rw [show off + cs.length + (k - (off + cs.length)) = k from by omega] at ha
            exact hr.2 k a u ha (by simpa using hu)
      obtain ⟨us, h3, h4⟩ := fill_sound ps qs (cells.take off ++ cs ++ cells.drop (off + cs.length)) ((v.cells.toList.zipIdx 0).foldl (fun cs (x : Value × Nat) => cs.setIfInBounds (off + x.2) x.1) vs.toArray).toList out (by simpa using hl)
        (fun k p q hk hq => hp (k + 1) p q (by simpa using hk) (by simpa using hq)) hR h
      refine ⟨us, ?_, h4⟩
      rw [Array.toArray_toList] at h3
      rw [← e] at h3
      exact h3

def evalP (G : GEnv) (t : Slots) : List (Nat × Operand) → List (Nat × AV)
  | [] => []
  | (i, x) :: xs => (i, evalA G t x) :: evalP G t xs

theorem evalP_rel {G : GEnv} {c : Cfg} {n : Nat} {t : Slots} {a : Act} (ho : Ok G c) (s : SR c n t a) : ∀ (xs : List (Nat × Operand)),
    (evalP G t xs).length = (xs.map fun x => (x.1, a.eval x.2)).length ∧ ∀ (i : Nat) p q, (evalP G t xs)[i]? = some p → (xs.map fun x => (x.1, a.eval x.2))[i]? = some q → p.1 = q.1 ∧ RelV c p.2 q.2
  | [] => ⟨rfl, fun i p q h => by simp [evalP] at h⟩
  | (i, x) :: xs => by
    obtain ⟨h1, h2⟩ := evalP_rel ho s xs
    refine ⟨by simp [evalP] at h1 ⊢; exact h1, fun k p q hp hq => ?_⟩
    cases k with
    | zero =>
      simp [evalP] at hp hq
      subst hp; subst hq
      exact ⟨rfl, eval_rel ho s x⟩
    | succ k => exact h2 k p q (by simpa [evalP] using hp) (by simpa using hq)

theorem evalP_congr {G : GEnv} {t t' : Slots} : ∀ {xs : List (Nat × Operand)}, (∀ x ∈ xs, evalA G t' x.2 = evalA G t x.2) → evalP G t' xs = evalP G t xs
  | [], _ => rfl
  | (i, x) :: xs, h => by
    simp only [evalP]
    rw [h (i, x) List.mem_cons_self, evalP_congr fun y hy => h y (List.mem_cons_of_mem _ hy)]

/-- Where a field's cells lie. -/
def placesOf (T : List (Nat × TI)) : List (Nat × Nat) → Option (List (Nat × Nat))
  | [] => some []
  | (off, ft) :: fs => match lookT T ft, placesOf T fs with
    | some j, some ps => some ((off, j.sz) :: ps)
    | _, _ => none

def buildA (T : List (Nat × TI)) (ty : Nat) (ps : List (Nat × AV)) : Option (List AV) :=
  match lookT T ty with
  | some i => match zeroA i, i.d with
    | some z, .struct fs => match placesOf T fs with
      | some pl => fillA (fun k => pl[k]?) z ps
      | none => none
    | some z, .array _ e => match lookT T e with
      | some j => fillA (fun k => some (k * j.sz, j.sz)) z ps
      | none => none
    | _, _ => none
  | none => none

theorem run_places {E : Env} {w : World} : ∀ (gs : List Field) (pl : List (Nat × Nat)), placesOf E.T (gs.map fun f => (f.offset, f.type)) = some pl →
    (gs.mapM fun f => (do pure (f.offset, ← sizeOf f.type) : Sem (Nat × Nat))).run E.P w = .ok pl w
  | [], pl, h => by simp [placesOf] at h; subst h; rfl
  | g :: gs, pl, h => by
    simp only [List.map_cons, placesOf] at h
    split at h <;> try (simp at h; done)
    rename_i j ps hj hps
    injection h with h
    subst h
    rw [List.mapM_cons]
    simp only [Sem.run_bind, run_sizeOf hj, Result.andThen_ok, Sem.run_pure, run_places gs ps hps]

theorem P1.build {E : Env} {n : Nat} {H : List AObj} {o : Oper} {t : Slots} {ty : Nat} {ps : List (Nat × Operand)} {cs : List AV} (hop : o.op = .build ty ⟨ps⟩) (h : buildA E.T ty (evalP E.G t ps) = some cs) : P1 E n H H o t (.agg cs) :=
  .still (fun cc e => by rw [hop] at e; cases e) (fun c a hH ho sr => by
    unfold buildA at h
    split at h <;> try (simp at h; done)
    rename_i i hi
    obtain ⟨q1, q2⟩ := evalP_rel ho sr ps
    obtain ⟨d, hu, hok⟩ := (Env.ti hi).u
    split at h <;> try (simp at h; done)
    · rename_i z fs hz hd
      rw [hd] at hok
      obtain ⟨gs, rfl, hgs⟩ := hok
      split at h <;> try (simp at h; done)
      rename_i pl hpl
      have hzr := cellsA_rel (constA_rel c i.zero) hz
      obtain ⟨us, h1, h2⟩ := fill_sound _ _ _ _ _ q1 q2 hzr h
      rw [← hgs] at hpl
      have hp := run_places (w := c.w) _ _ hpl
      refine ⟨.agg us, ?_, by have := RelV.agg us.toList h2.1 h2.2; simpa using this⟩
      have hm : (gs.mapM fun f => (do pure (f.offset, ← sizeOf f.type) : Sem (Nat × Nat))).run E.P c.w = .ok pl.toArray c.w := by
        rw [Array.mapM_eq_mapM_toList, Sem.run_map]
        rw [hp]
        rfl
      have hf : Instr.fill (fun x => pl.toArray[x]?) i.zero.cells (List.map (fun x => (x.1, a.eval x.2)) ps) = some us := by
        simpa using h1
      simp only [execOp, hop, Instr.build, Sem.run_bind, run_zeroValue hi, Result.andThen_ok, run_underlying hu, hm, List.map_toArray]
      simp only [hf, Sem.run_pure, Result.andThen_ok]
    · rename_i z m e hz hd
      rw [hd] at hok
      have hok' : d = .array m e := hok
      subst hok'
      split at h <;> try (simp at h; done)
      rename_i j hj
      have hzr := cellsA_rel (constA_rel c i.zero) hz
      obtain ⟨us, h1, h2⟩ := fill_sound _ _ _ _ _ q1 q2 hzr h
      refine ⟨.agg us, ?_, by have := RelV.agg us.toList h2.1 h2.2; simpa using this⟩
      have hf : Instr.fill (fun x => some (x * j.sz, j.sz)) i.zero.cells (List.map (fun x => (x.1, a.eval x.2)) ps) = some us := by
        simpa using h1
      simp only [execOp, hop, Instr.build, Sem.run_bind, run_zeroValue hi, Result.andThen_ok, run_underlying hu, run_sizeOf hj, List.map_toArray]
      simp only [hf, Sem.run_pure, Result.andThen_ok])

def chunkA (z : Nat) : Nat → List AV → List (List AV)
  | 0, _ => []
  | m + 1, cs => cs.take z :: chunkA z m (cs.drop z)

theorem chunk_length (z : Nat) : ∀ (m : Nat) (cs : List AV), (chunkA z m cs).length = m
  | 0, _ => rfl
  | m + 1, cs => by simp [chunkA, chunk_length z m]

theorem chunk_flatten (z : Nat) : ∀ (m : Nat) (cs : List AV), cs.length = m * z → (chunkA z m cs).flatten = cs ∧ ∀ x ∈ chunkA z m cs, x.length = z
  | 0, cs, h => by
    have : cs = [] := List.length_eq_zero_iff.1 (by omega)
    subst this
    exact ⟨rfl, fun x hx => by simp [chunkA] at hx⟩
  | m + 1, cs, h => by
    have hz : (m + 1) * z = m * z + z := by rw [Nat.add_mul]; omega
    obtain ⟨h1, h2⟩ := chunk_flatten z m (cs.drop z) (by rw [List.length_drop]; omega)
    refine ⟨by simp only [chunkA, List.flatten_cons, h1, List.take_append_drop], fun x hx => ?_⟩
    rcases List.mem_cons.1 hx with rfl | hx
    · rw [List.length_take]; omega
    · exact h2 x hx

theorem relL_unk (c : Cfg) : ∀ (vs : List Value), RelL c (List.replicate vs.length .unk) vs
  | [] => RelL.nil c
  | v :: vs => RelL.cons .unk (relL_unk c vs)

/-- A slice written out: nobody else has it. -/
theorem P1.buildSlice {E : Env} {n : Nat} {H : List AObj} {o : Oper} {t : Slots} {ty e len z : Nat} {j : TI} {ps : List (Nat × Operand)} {cs : List AV} (hop : o.op = .buildSlice ty len ⟨ps⟩) (hs : sliceOf E.T ty = some (e, j)) (hz : j.sz = z)
    (h : fillA (fun k => some (k * z, z)) (List.replicate (len * z) .unk) (evalP E.G t ps) = some cs) (hl : Nat.beq cs.length (len * z) = true) (hsm : Nat.ble (len * z) 16777216 = true) (hb : 0 < z) (hzc : Nat.beq j.zero.cells.size z = true) :
    P1 E n H H o t (.sl .full z (chunkA z len cs)) :=
  ⟨fun cc e => (by rw [hop] at e; cases e), fun c a hH ho sr => by
    subst hz
    obtain ⟨hu, hj⟩ := sliceOf_spec hs
    obtain ⟨q1, q2⟩ := evalP_rel ho sr ps
    have hl' : cs.length = len * j.sz := Nat.eq_of_beq_eq_true hl
    have hsm' : len * j.sz ≤ 16777216 := Nat.le_of_ble_eq_true hsm
    generalize hz0 : (if len * j.sz = 0 then #[] else j.zero.cells) = zero
    have hzl : ((Array.range (len * j.sz)).map fun k => zero[k % zero.size]!).toList.length = len * j.sz := by simp
    have hrl := relL_unk c ((Array.range (len * j.sz)).map fun k => zero[k % zero.size]!).toList
    rw [hzl] at hrl
    obtain ⟨us, h1, h2⟩ := fill_sound _ _ _ _ _ q1 q2 hrl h
    rw [Array.toArray_toList] at h1
    have hx := Ext.push c (.cells us e) ho.hr
    have hh := ho.hr.push (.cells us e)
    refine ⟨.slice (some ⟨c.w.heap.size, 0, none⟩) len len, c.ι, c.w.alloc (.cells us e), ?_, by rw [← hH]; exact hx, by rw [← hH]; exact hh, ?_⟩
    · have hno : ¬ (len * j.sz > 2 ^ 24) := by omega
      have hf : Instr.fill (fun i => some (i * j.sz, j.sz)) ((Array.range (len * j.sz)).map fun k => zero[k % zero.size]!) (List.map (fun x => (x.1, a.eval x.2)) ps) = some us := h1
      by_cases h0 : len * j.sz = 0
      · rw [if_pos h0] at hz0
        subst hz0
        simp only [execOp, hop, Instr.buildSlice, Sem.run_bind, run_underlying hu, run_sizeOf hj, Result.andThen_ok, if_neg hno, if_pos h0, Sem.run_pure, List.map_toArray]
        simp only [hf, Sem.run_bind, run_newRow, Result.andThen_ok, Sem.run_pure]
      · rw [if_neg h0] at hz0
        subst hz0
        simp only [execOp, hop, Instr.buildSlice, Sem.run_bind, run_underlying hu, run_sizeOf hj, run_zeroValue hj, Result.andThen_ok, if_neg hno, if_neg h0, Sem.run_pure, List.map_toArray]
        simp only [hf, Sem.run_bind, run_newRow, Result.andThen_ok, Sem.run_pure]
    · obtain ⟨f1, f2⟩ := chunk_flatten j.sz len cs hl'
      have : RelV (c.push (.cells us e)) (.sl .full j.sz (chunkA j.sz len cs)) (.slice (some ⟨c.w.heap.size, 0, none⟩) len len) :=
        mk_sl (ws := us.toList) (chunk_length _ _ _) (Nat.le_refl _) f2 rfl (by rw [f1]; exact h2.mono hx.toExt0) (fun k v hv => new_fz ho.hr (by simpa using hv))
      rw [← hH]
      exact this⟩

/-- AN APPEND TO A SLICE WITHOUT SPARE PLACES: what comes of it is nobody's to write. -/
theorem P1.appF {E : Env} {n : Nat} {H : List AObj} {o : Oper} {t : Slots} {ty tx e z : Nat} {j ix : TI} {p q : Operand} {xs ys : List (List AV)}
    (hop : o.op = .call { callee := .builtin .append, args := ⟨[p, q]⟩, argTypes := ⟨[ty, tx]⟩ }) (hs : sliceOf E.T ty = some (e, j)) (hz : j.sz = z) (hx : lookT E.T tx = some ix) (hd : ∀ k, ix.d ≠ .int k)
    (hb : Nat.blt 0 j.bytes = true) (hp : evalA E.G t p = .sl .full z xs) (hq : srcA z (evalA E.G t q) = some ys) (hfit : (xs.length + ys.length) * j.bytes ≤ 140737488355328) :
    P1 E n H H o t (.sl .no z (xs ++ ys)) :=
  ⟨fun cc e => (by rw [hop] at e; cases e), fun c a hH ho sr => by
    subst hz
    have hpr := eval_rel ho sr p
    rw [hp] at hpr
    have hqr := eval_rel ho sr q
    obtain ⟨s1, s2⟩ := srcA_ok hq hqr
    obtain ⟨v', w', h1, h2, h3, h4⟩ := app_full (ty0 := o.type) ho.hr hs hx hd (by simpa using hb) hpr s1 s2 hfit
    rw [hH] at h2 h3 h4
    refine ⟨v', c.ι, w', ?_, h2, h3, h4⟩
    simp [execOp, hop, resolve, invoke, builtin, h1]⟩

section
variable {E : Env} {ro : Option Nat} {n : Nat} {K : Kont} {t : Slots} {H H1 L : List AObj} {ops : Array Oper} {o : Oper} {rest : List Oper} {Kc : Slots → Prop}

theorem WpOps.build {d ty : Nat} {ps : List (Nat × Operand)} (cs : List AV) (hw : wantedA ops t o = some true) (hd : o.dst = some d) (hdn : Nat.blt d n = true) (hop : o.op = .build ty ⟨ps⟩) (h : buildA E.T ty (evalP E.G t ps) = some cs)
    (hk : WpOps E ro n ops rest K ((d, .agg cs) :: t) H) : WpOps E ro n ops (o :: rest) K t H := .p1 hw hd hdn (.build hop h) hk
theorem LexA.build {d ty : Nat} {ps : List (Nat × Operand)} (cs : List AV) (hw : wantedA ops t o = some true) (hd : o.dst = some d) (hdn : Nat.blt d n = true) (hop : o.op = .build ty ⟨ps⟩) (h : buildA E.T ty (evalP E.G t ps) = some cs)
    (hk : LexA E ro n H ops Kc rest ((d, .agg cs) :: t)) : LexA E ro n H ops Kc (o :: rest) t :=
  .p1 hw hd hdn (.build hop (by rw [evalP_congr (xs := ps) (t' := cutT (o.looksAt ops) t) (t := t) fun x hx => evalA_cut (by rw [hop]; simp only [Op.operands, List.map_toArray]; exact List.mem_toArray.2 (List.mem_map.2 ⟨x, hx, rfl⟩))]; exact h)) hk

theorem WpOps.buildSlice {d ty e len z : Nat} {j : TI} {ps : List (Nat × Operand)} (cs : List AV) (hw : wantedA ops t o = some true) (hd : o.dst = some d) (hdn : Nat.blt d n = true) (hop : o.op = .buildSlice ty len ⟨ps⟩) (hs : sliceOf E.T ty = some (e, j)) (hz : j.sz = z)
    (h : fillA (fun k => some (k * z, z)) (List.replicate (len * z) .unk) (evalP E.G t ps) = some cs) (hl : Nat.beq cs.length (len * z) = true) (hsm : Nat.ble (len * z) 16777216 = true) (hb : Nat.blt 0 z = true) (hzc : Nat.beq j.zero.cells.size z = true)
    (hk : WpOps E ro n ops rest K ((d, .sl .full z (chunkA z len cs)) :: t) H) : WpOps E ro n ops (o :: rest) K t H := .p1 hw hd hdn (.buildSlice hop hs hz h hl hsm (by simpa using hb) hzc) hk
theorem LexA.buildSlice {d ty e len z : Nat} {j : TI} {ps : List (Nat × Operand)} (cs : List AV) (hw : wantedA ops t o = some true) (hd : o.dst = some d) (hdn : Nat.blt d n = true) (hop : o.op = .buildSlice ty len ⟨ps⟩) (hs : sliceOf E.T ty = some (e, j)) (hz : j.sz = z)
    (h : fillA (fun k => some (k * z, z)) (List.replicate (len * z) .unk) (evalP E.G t ps) = some cs) (hl : Nat.beq cs.length (len * z) = true) (hsm : Nat.ble (len * z) 16777216 = true) (hb : Nat.blt 0 z = true) (hzc : Nat.beq j.zero.cells.size z = true)
    (hk : LexA E ro n H ops Kc rest ((d, .sl .full z (chunkA z len cs)) :: t)) : LexA E ro n H ops Kc (o :: rest) t :=
  .p1 hw hd hdn (.buildSlice hop hs hz (by rw [evalP_congr (xs := ps) (t' := cutT (o.looksAt ops) t) (t := t) fun x hx => evalA_cut (by rw [hop]; simp only [Op.operands, List.map_toArray]; exact List.mem_toArray.2 (List.mem_map.2 ⟨x, hx, rfl⟩))]; exact h) hl hsm (by simpa using hb) hzc) hk

theorem WpOps.appF {d ty tx e z : Nat} {j ix : TI} {p q : Operand} {xs ys : List (List AV)} (hw : wantedA ops t o = some true) (hd : o.dst = some d) (hdn : Nat.blt d n = true)
    (hop : o.op = .call { callee := .builtin .append, args := ⟨[p, q]⟩, argTypes := ⟨[ty, tx]⟩ }) (hs : sliceOf E.T ty = some (e, j)) (hz : j.sz = z) (hx : lookT E.T tx = some ix) (hdd : ∀ k, ix.d ≠ .int k)
    (hb : Nat.blt 0 j.bytes = true) (hp : evalA E.G t p = .sl .full z xs) (hq : srcA z (evalA E.G t q) = some ys) (hfit : (xs.length + ys.length) * j.bytes ≤ 140737488355328)
    (hk : WpOps E ro n ops rest K ((d, .sl .no z (xs ++ ys)) :: t) H) : WpOps E ro n ops (o :: rest) K t H := .p1 hw hd hdn (.appF hop hs hz hx hdd hb hp hq hfit) hk
theorem LexA.appF {d ty tx e z : Nat} {j ix : TI} {p q : Operand} {xs ys : List (List AV)} (hw : wantedA ops t o = some true) (hd : o.dst = some d) (hdn : Nat.blt d n = true)
    (hop : o.op = .call { callee := .builtin .append, args := ⟨[p, q]⟩, argTypes := ⟨[ty, tx]⟩ }) (hs : sliceOf E.T ty = some (e, j)) (hz : j.sz = z) (hx : lookT E.T tx = some ix) (hdd : ∀ k, ix.d ≠ .int k)
    (hb : Nat.blt 0 j.bytes = true) (hp : evalA E.G t p = .sl .full z xs) (hq : srcA z (evalA E.G t q) = some ys) (hfit : (xs.length + ys.length) * j.bytes ≤ 140737488355328)
    (hk : LexA E ro n H ops Kc rest ((d, .sl .no z (xs ++ ys)) :: t)) : LexA E ro n H ops Kc (o :: rest) t :=
  .p1 hw hd hdn (.appF hop hs hz hx hdd hb (by rw [evalA_cut (by rw [hop]; simp [Op.operands, Call.operands])]; exact hp) (by rw [evalA_cut (by rw [hop]; simp [Op.operands, Call.operands])]; exact hq) hfit) hk

/-- Conditions that are known. -/
theorem WpA.condT {x y : Code} {op : Operand} (hc : evalA E.G t op = .bool true) (h : WpA E ro n x K t H) : WpA E ro n (.cond op x y) K t H := .cond true hc (fun _ => h) (fun h => (by cases h))
theorem WpA.condF {x y : Code} {op : Operand} (hc : evalA E.G t op = .bool false) (h : WpA E ro n y K t H) : WpA E ro n (.cond op x y) K t H := .cond false hc (fun h => (by cases h)) (fun _ => h)
end
end Go.Gp

/- Slots that are kept in view; loops over them. -/
namespace Go.Gp
open Go.RowKit
set_option linter.unusedVariables false
set_option linter.unusedSimpArgs false

def Agree : Slots → Slots → Prop
  | [], _ => True
  | (d, v) :: r, t => look t d = v ∧ Agree r t

theorem Agree.less : ∀ {T t : Slots}, Agree T t → Less (look T) (look t)
  | [], t, _ => fun i => .inl rfl
  | (d, v) :: r, t, h => fun i => by
    show (bif Nat.beq d i then v else look r i) = .unk ∨ (bif Nat.beq d i then v else look r i) = look t i
    cases hb : Nat.beq d i with
    | true =>
      have := Nat.eq_of_beq_eq_true hb
      subst this
      exact .inr h.1.symm
    | false => exact Agree.less h.2 i

section
variable {E : Env} {ro : Option Nat} {n : Nat} {K : Kont} {t : Slots} {H : List AObj}

theorem SR.agree {c : Cfg} {T : Slots} {a : Act} (s : SR c n t a) (h : Agree T t) : SR c n T a := (s.sf.less h.less).sr

theorem WpA.weak {code : Code} {T : Slots} (h : Agree T t) (hw : WpA E ro n code K T H) : WpA E ro n code K t H :=
  ⟨fun cd c0 c a e1 e2 e3 e4 e5 => hw.out cd c0 c a e1 e2 e3 (e4.agree h) e5⟩
theorem WpOps.weak {ops : Array Oper} {l : List Oper} {T : Slots} (h : Agree T t) (hw : WpOps E ro n ops l K T H) : WpOps E ro n ops l K t H :=
  ⟨fun cd c0 c a e1 e2 e3 e4 e5 => hw.out cd c0 c a e1 e2 e3 (e4.agree h) e5⟩

/-- A LOOP: a: what is known at a round's head. -/
theorem WpA.loopS {α : Type} {body : Code} (T : α → Slots) (Hf : α → List AObj) (ok : α → Prop) (me : α → Nat) (a0 : α) (h0 : ok a0) (hT : Agree (T a0) t) (hH : H = Hf a0)
    (hr : ∀ a, ok a → WpA E ro n body (thenK (fun t' H' => ∃ a', ok a' ∧ me a' < me a ∧ Agree (T a') t' ∧ H' = Hf a') K) (T a) (Hf a)) : WpA E ro n (.loop body) K t H :=
  .loop (fun m t' H' => ∃ a, ok a ∧ me a = m ∧ Agree (T a) t' ∧ H' = Hf a) (me a0) ⟨a0, h0, rfl, hT, hH⟩ fun m t' H' ⟨a, h1, h2, h3, h4⟩ => by
    subst h4; subst h2
    refine (WpA.weak h3 (hr a h1)).mono fun x t'' H'' hx => ?_
    cases x with
    | normal =>
      obtain ⟨a', g1, g2, g3, g4⟩ := hx
      exact ⟨me a', g2, a', g1, rfl, g3, g4⟩
    | _ => exact hx
end

def BdS (n : Nat) : Slots → Prop
  | [] => True
  | (_, v) :: r => Bd n v ∧ BdS n r

theorem BdS.look {n : Nat} : ∀ {T : Slots}, BdS n T → ∀ i, Bd n (look T i)
  | [], _, i => .unk
  | (d, v) :: r, h, i => by
    show Bd n (bif Nat.beq d i then v else Gp.look r i)
    cases Nat.beq d i
    · exact BdS.look h.2 i
    · exact h.1

/-- WHAT IS LAID IN BETWEEN MAY BE LEFT OUT OF SIGHT. -/
theorem WpA.scope {E : Env} {ro : Option Nat} {n : Nat} {K : Kont} {t : Slots} {H : List AObj} {code : Code}
    (h : WpA E ro n code (fun x t' H' => K x t' H' ∨ ∃ H1 L T, H' = H1 ++ L ∧ H1.length = H.length ∧ TrOk H H1 ∧ Agree T t' ∧ BdS H.length T ∧ (∀ v, x = .panic v → Bd H.length v) ∧ K x T H1) t H) : WpA E ro n code K t H := by
  refine ⟨?_⟩
  intro cd c0 c a e1 e2 e3 e4 e5
  refine wpIn_mono (h.out cd c c a (Ext.refl c) e2 e3 e4 e5) ?_
  rintro e a' w' ⟨ι, H', t', x, h1, h2, h3, h4, h5, h6⟩
  rcases h6 with h6 | ⟨H1, L, T, q1, q2, q3, q4, q5, q6, q7⟩
  · exact ⟨ι, H', t', x, e1.trans h1, h2, h3, h4, h5, h6⟩
  · subst e2
    have hE := h1.trunc (n := c.H.length) rfl
    have hbd : HBd c.H.length H' := by
      intro o ho
      obtain ⟨i, hi⟩ := List.getElem?_of_mem ho
      rw [q1, ← q2, List.take_left] at hi
      rcases q3 i o hi with g | g
      · exact e3.hr.obd g
      · exact g
    have hok := e3.step hE (h2.hr.trunc hbd)
    have hs := h3.agree q4
    have hH : ((⟨ι, H', w'⟩ : Cfg).trunc c.H.length).H = H1 := by
      show H'.take c.H.length = H1
      rw [q1, ← q2, List.take_left]
    refine Post.mk (c := (⟨ι, H', w'⟩ : Cfg).trunc c.H.length) x (e1.trans hE) hok ⟨hs.size, fun i => (hs.rel i).trunc (q5.look i)⟩ ?_ ?_ (by rw [hH]; exact q7)
    · obtain ⟨D, d1, df, d2, ds, d3⟩ := h4
      refine ⟨D, d1, df, d2, ds, fun b hb => ?_⟩
      obtain ⟨d4, d5, d6⟩ := d3 b hb
      exact ⟨d4, d5, fun id o ho hl hi => d6 id o (trunc_get.1 ho).2 hl (trunc_ι.1 hi).2⟩
    · cases x <;> cases e <;> first | exact h5 | exact h5.elim | skip
      obtain ⟨v, g1, g2⟩ := h5
      exact ⟨v, g1, g2.trunc (q6 _ rfl)⟩

theorem wrap64 {x : Int} (h1 : -9223372036854775808 ≤ x) (h2 : x < 9223372036854775808) : IntKind.i64.wrap x = x := by
  simp only [IntKind.wrap, IntKind.bits, IntKind.signed]
  simp
  omega

theorem wrapu64 {x : Int} (h1 : 0 ≤ x) (h2 : x < 18446744073709551616) : IntKind.u64.wrap x = x := by
  simp only [IntKind.wrap, IntKind.bits, IntKind.signed]
  simp
  omega
end Go.Gp
