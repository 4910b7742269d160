/- Equality of structs and arrays; operations inside a statement whose order is open. -/
import Derived.Test.YtmacdhglhafldaaA10
import Derived.DeepKeys
namespace Go.Gp
open Go.RowKit
set_option linter.unusedVariables false
set_option linter.unusedSimpArgs false

def beq1 : AV → AV → Bool
  | .int _ a, .int _ b => a == b
  | .bool a, .bool b => a == b
  | .str a, .str b => a == b
  | _, _ => false

def eqAL : List AV → List AV → Bool
  | [], [] => true
  | a :: as, b :: bs => beq1 a b && eqAL as bs
  | _, _ => false

/-- How two values of a type (or of a struct's fields, from one on) compare. -/
inductive EqS (E : Env) : (Nat ⊕ List (Nat × Nat)) → List AV → List AV → Bool → Prop
  | int {t : Nat} {k q : IntKind} {a b : Int} (h : (lookT E.T t).map TI.d = some (.int k)) : EqS E (.inl t) [.int q a] [.int q b] (a == b)
  | bool {t : Nat} {a b : Bool} (h : (lookT E.T t).map TI.d = some .basic) : EqS E (.inl t) [.bool a] [.bool b] (a == b)
  | str {t : Nat} {a b : List UInt8} (h : (lookT E.T t).map TI.d = some .str) : EqS E (.inl t) [.str a] [.str b] (a == b)
  | bytes {t e n : Nat} {k q : IntKind} {as bs : List AV} (h : (lookT E.T t).map TI.d = some (.array n e)) (he : (lookT E.T e).map (fun i => (i.d, i.sz)) = some (.int k, 1)) (h1 : as.length = n) (h2 : bs.length = n)
      (h3 : ∀ a ∈ as, ∃ v, a = .int q v) (h4 : ∀ a ∈ bs, ∃ v, a = .int q v) : EqS E (.inl t) [.agg as] [.agg bs] (eqAL as bs)
  | struct {t : Nat} {fs : List (Nat × Nat)} {as bs : List AV} {r : Bool} (h : (lookT E.T t).map TI.d = some (.struct fs)) (hf : EqS E (.inr fs) as bs r) : EqS E (.inl t) [.agg as] [.agg bs] r
  | nil {as bs : List AV} : EqS E (.inr []) as bs true
  | cons {off ft : Nat} {fs : List (Nat × Nat)} {j : TI} {as bs : List AV} {x y : AV} {r r' : Bool} (hj : lookT E.T ft = some j) (hx : partA j as off = some x) (hy : partA j bs off = some y)
      (h : EqS E (.inl ft) [x] [y] r) (ht : EqS E (.inr fs) as bs r') : EqS E (.inr ((off, ft) :: fs)) as bs (r && r')

theorem lookT_d {E : Env} {t : Nat} {d : TD} (h : (lookT E.T t).map TI.d = some d) : ∃ i u, lookT E.T t = some i ∧ E.P.underlying t = some u ∧ d.ok u := by
  obtain ⟨i, hi, hd⟩ := Option.map_eq_some_iff.1 h
  obtain ⟨u, hu, hok⟩ := (Env.ti hi).u
  exact ⟨i, u, hi, hu, by rw [← hd]; exact hok⟩

theorem info_of_look {E : Env} {t : Nat} {i : TI} (h : lookT E.T t = some i) : ∃ info, E.P.info? t = some info ∧ info.size = i.sz := by
  obtain ⟨info, h1, h2, h3, h4⟩ := ext_info h
  exact ⟨info, h1, h3⟩

theorem cellsOf_look {E : Env} {t : Nat} {i : TI} (h : lookT E.T t = some i) : E.P.cellsOf t = i.sz := by
  obtain ⟨info, h1, h2⟩ := info_of_look h
  simp [Program.cellsOf, h1, h2]

theorem drop_cons {xs : List AV} {k : Nat} {a : AV} (h : xs[k]? = some a) : xs.drop k = a :: xs.drop (k + 1) := by
  obtain ⟨hlt, rfl⟩ := List.getElem?_eq_some_iff.1 h
  exact List.drop_eq_getElem_cons hlt

theorem run_eqItems_bytes {E : Env} {c : Cfg} {e : Nat} {k q : IntKind} {j : TI} (dd : Nat) (hj : lookT E.T e = some j) (hd : j.d = .int k) (hz : j.sz = 1) {as bs : List AV} {ws us : List Value} (hw : RelL c as ws) (hu : RelL c bs us)
    (h3 : ∀ a ∈ as, ∃ v, a = .int q v) (h4 : ∀ a ∈ bs, ∃ v, a = .int q v) (hl : as.length = bs.length) : ∀ (m s : Nat), s + m = as.length →
    (Op.eqItems (dd + 1) e 1 ws.toArray us.toArray (List.range' s m)).run E.P c.w = .ok (eqAL (as.drop s) (bs.drop s)) c.w
  | 0, s, h => by
    rw [List.drop_eq_nil_of_le (by omega), List.drop_eq_nil_of_le (by omega)]
    simp [Op.eqItems, eqAL]
  | m + 1, s, h => by
    have ha : as[s]? = some as[s] := List.getElem?_eq_getElem (by omega)
    have hb : bs[s]? = some bs[s] := List.getElem?_eq_getElem (by omega)
    obtain ⟨u, hu1, hok⟩ := (Env.ti hj).u
    rw [hd] at hok
    have hok' : u = .int k := hok
    subst hok'
    obtain ⟨va, ea⟩ := h3 _ (List.getElem_mem (by omega : s < as.length))
    obtain ⟨vb, eb⟩ := h4 _ (List.getElem_mem (by omega : s < bs.length))
    have p1 : partA j as s = some (.int q va) := by unfold partA; rw [hd]; show as[s]? = _; rw [ha, ea]
    have p2 : partA j bs s = some (.int q vb) := by unfold partA; rw [hd]; show bs[s]? = _; rw [hb, eb]
    obtain ⟨r1, g1, g2⟩ := part_sound hj hw p1
    obtain ⟨r2, g3, g4⟩ := part_sound hj hu p2
    cases g2; cases g4
    rw [List.range'_succ]
    unfold Op.eqItems
    simp only [Nat.mul_one, Sem.run_bind, g1, g3, Result.andThen_ok]
    have he : (Op.equalIn (dd + 1) e (.int q va) (.int q vb)).run E.P c.w = .ok (va == vb) c.w := by
      simp only [Op.equalIn, Sem.run_bind, run_underlying hu1, Result.andThen_ok, if_true, Sem.run_pure]
    rw [he, drop_cons ha, drop_cons hb, ea, eb]
    simp only [Result.andThen_ok, eqAL, beq1]
    have ih := run_eqItems_bytes dd hj hd hz hw hu h3 h4 hl m (s + 1) (by omega)
    cases hc : (va == vb) with
    | false => simp
    | true => simpa using ih

theorem eqS_sound {E : Env} {c : Cfg} {z : Nat ⊕ List (Nat × Nat)} {xs ys : List AV} {b : Bool} (h : EqS E z xs ys b) :
    match z with
    | .inl t => ∀ (m d : Nat) (x y : AV) (u v : Value), xs = [x] → ys = [y] → E.P.keyTypeAt m t = true → RelV c x u → RelV c y v → (Op.equalIn (d + m) t u v).run E.P c.w = .ok b c.w
    | .inr fs => ∀ (m d : Nat) (gs : List Field) (ws us : List Value), gs.map (fun f => (f.offset, f.type)) = fs → (∀ g ∈ gs, g.name ≠ "_" ∧ E.P.keyTypeAt m g.type = true) → RelL c xs ws → RelL c ys us →
        (Op.eqFields (d + m) ws.toArray us.toArray gs).run E.P c.w = .ok b c.w := by
  induction h with
  | @int t k q a b' h =>
    intro m d x y u v hx hy hk hu hv
    injection hx with hx; injection hy with hy; subst hx; subst hy
    obtain ⟨i, w, hi, hw, hok⟩ := lookT_d h
    have hok' : w = .int k := hok
    subst hok'
    cases m with
    | zero => simp [Program.keyTypeAt] at hk
    | succ m =>
      cases hu; cases hv
      show (Op.equalIn (d + m + 1) t _ _).run E.P c.w = _
      simp only [Op.equalIn, Sem.run_bind, run_underlying hw, Result.andThen_ok, if_true, Sem.run_pure]
  | @bool t a b' h =>
    intro m d x y u v hx hy hk hu hv
    injection hx with hx; injection hy with hy; subst hx; subst hy
    obtain ⟨i, w, hi, hw, hok⟩ := lookT_d h
    have hok' : w = .bool := hok
    subst hok'
    cases m with
    | zero => simp [Program.keyTypeAt] at hk
    | succ m =>
      cases hu; cases hv
      show (Op.equalIn (d + m + 1) t _ _).run E.P c.w = _
      simp only [Op.equalIn, Sem.run_bind, run_underlying hw, Result.andThen_ok, if_true, Sem.run_pure]
  | @str t a b' h =>
    intro m d x y u v hx hy hk hu hv
    injection hx with hx; injection hy with hy; subst hx; subst hy
    obtain ⟨i, w, hi, hw, hok⟩ := lookT_d h
    have hok' : w = .string := hok
    subst hok'
    cases m with
    | zero => simp [Program.keyTypeAt] at hk
    | succ m =>
      cases hu; cases hv
      show (Op.equalIn (d + m + 1) t _ _).run E.P c.w = _
      simp only [Op.equalIn, Sem.run_bind, run_underlying hw, Result.andThen_ok, if_true, Sem.run_pure, beq_toListBytes, toList_mk]
  | @bytes t e n k q as bs h he h1 h2 h3 h4 =>
    intro m d x y u v hx hy hk hu hv
    injection hx with hx; injection hy with hy; subst hx; subst hy
    obtain ⟨i, w, hi, hw, hok⟩ := lookT_d h
    have hok' : w = .array n e := hok
    subst hok'
    obtain ⟨j, hj, hje⟩ := Option.map_eq_some_iff.1 he
    simp only [Prod.mk.injEq] at hje
    obtain ⟨info, hinfo, _⟩ := info_of_look hj
    cases m with
    | zero => simp [Program.keyTypeAt] at hk
    | succ m =>
      cases hu with
      | agg ws hl hr =>
        cases hv with
        | agg us hl' hr' =>
          show (Op.equalIn (d + m + 1) t _ _).run E.P c.w = _
          rw [run_equalIn_array c.w (d + m) _ _ hw hinfo, cellsOf_look hj, hje.2, List.range_eq_range']
          have hm : ∃ m', m = m' + 1 := by
            cases m with
            | zero =>
              exfalso
              unfold Program.keyTypeAt at hk
              rw [hw] at hk
              simp [Program.keyTypeAt] at hk
            | succ m' => exact ⟨m', rfl⟩
          obtain ⟨m', rfl⟩ := hm
          have := run_eqItems_bytes (d + m') hj hje.1 hje.2 ⟨hl, hr⟩ ⟨hl', hr'⟩ h3 h4 (by omega) n 0 (by omega)
          rw [List.drop_zero, List.drop_zero] at this
          exact this
  | @struct t fs as bs r h hf ih =>
    intro m d x y u v hx hy hk hu hv
    injection hx with hx; injection hy with hy; subst hx; subst hy
    obtain ⟨i, w, hi, hw, hok⟩ := lookT_d h
    obtain ⟨gs, rfl, hgs⟩ := hok
    cases m with
    | zero => simp [Program.keyTypeAt] at hk
    | succ m =>
      unfold Program.keyTypeAt at hk
      rw [hw] at hk
      simp only [Bool.and_eq_true, Bool.not_eq_true', Array.all_eq_true_iff_forall_mem, bne_iff_ne, ne_eq] at hk
      obtain ⟨⟨hk1, hk2⟩, hk3⟩ := hk
      have hfo : E.P.fieldsOf t = gs := by simp [Program.fieldsOf, hw]
      cases hu with
      | agg ws hl hr =>
        cases hv with
        | agg us hl' hr' =>
          show (Op.equalIn (d + m + 1) t _ _).run E.P c.w = _
          rw [run_equalIn_struct c.w (d + m) t _ _ (by rw [hfo]; exact hw) hk3, hfo]
          exact ih m d gs.toList ws us hgs (fun g hg => hk1 g (by simpa using hg)) ⟨hl, hr⟩ ⟨hl', hr'⟩
  | nil =>
    intro m d gs ws us hg _ _ _
    have : gs = [] := List.map_eq_nil_iff.1 hg
    subst this
    simp [Op.eqFields]
  | @cons off ft fs j as bs x y r r' hj hx hy h ht ih1 ih2 =>
    intro m d gs ws us hg hn hw hu
    cases gs with
    | nil => simp at hg
    | cons g gs =>
      simp only [List.map_cons, List.cons.injEq, Prod.mk.injEq] at hg
      obtain ⟨⟨rfl, rfl⟩, hg2⟩ := hg
      obtain ⟨n1, n2⟩ := hn g List.mem_cons_self
      obtain ⟨a, p1, p2⟩ := part_sound hj hw hx
      obtain ⟨b, p3, p4⟩ := part_sound hj hu hy
      have e1 := ih1 m d x y a b rfl rfl n2 p2 p4
      have e2 := ih2 m d gs ws us hg2 (fun g' hg' => hn g' (List.mem_cons_of_mem _ hg')) hw hu
      simp only [Op.eqFields, n1, ne_eq, not_false_eq_true, if_true, Sem.run_bind, p1, p3, e1, Result.andThen_ok]
      cases r with
      | false => simp
      | true => simpa using e2

/-- No guard stands before a comparison of this type. -/
def noGuard (P : Program) (t : TypeId) : Prop := P.eqGuardType P.depth t = false

structure KeyT (E : Env) (t : Nat) : Prop where
  key : E.P.keyTypeAt 9 t = true
  free : E.P.eqGuardType E.P.depth t = false

theorem eqA_sound {E : Env} {c : Cfg} {t : Nat} {x y : AV} {u v : Value} {b : Bool} {ox oy : Operand} (hk : KeyT E t) (h : EqS E (.inl t) [x] [y] b) (hu : RelV c x u) (hv : RelV c y v) (neg : Bool) :
    (do eqGuard (bif neg then .neq else .eql) t ox oy u v; binOp (bif neg then .neq else .eql) t u v).run E.P c.w = .ok (.bool (b != neg)) c.w := by
  have h1 := eqS_sound (c := c) h 9 9991 x y u v rfl rfl hk.key hu hv
  have h2 : (Op.equal t u v).run E.P c.w = .ok b c.w := h1
  have hb1 : (do pure (Value.bool (← Op.equal t u v)) : Sem Value).run E.P c.w = .ok (.bool b) c.w := by rw [Sem.run_bind, h2]; rfl
  have hb2 : (do pure (Value.bool (!(← Op.equal t u v))) : Sem Value).run E.P c.w = .ok (.bool !b) c.w := by rw [Sem.run_bind, h2]; rfl
  cases h with
  | int h =>
    cases hu; cases hv
    rw [Sem.run_bind, eqGuard_plain (by simp) (by simp)]
    cases neg <;> simp [binOp, Op.intCmp] <;> rfl
  | bool h =>
    cases hu; cases hv
    rw [Sem.run_bind, eqGuard_plain (by simp) (by simp)]
    cases neg
    · simp only [cond_false, Result.andThen_ok, Bool.bne_false]; exact hb1
    · simp only [cond_true, Result.andThen_ok, Bool.bne_true]; exact hb2
  | str h =>
    cases hu; cases hv
    rw [Sem.run_bind, eqGuard_plain (by simp) (by simp)]
    cases neg <;> simp [binOp, Op.stringOp, toList_mk] <;> rfl
  | bytes =>
    cases hu with
    | agg ws hl hr =>
      cases hv with
      | agg us hl' hr' =>
        have hg : ∀ op, (eqGuard op t ox oy (.agg ws.toArray) (.agg us.toArray)).run E.P c.w = .ok () c.w := fun op => by
          cases op <;> simp [eqGuard, hk.free]
        rw [Sem.run_bind, hg]
        cases neg
        · simp only [cond_false, Result.andThen_ok, Bool.bne_false]; exact hb1
        · simp only [cond_true, Result.andThen_ok, Bool.bne_true]; exact hb2
  | struct =>
    cases hu with
    | agg ws hl hr =>
      cases hv with
      | agg us hl' hr' =>
        have hg : ∀ op, (eqGuard op t ox oy (.agg ws.toArray) (.agg us.toArray)).run E.P c.w = .ok () c.w := fun op => by
          cases op <;> simp [eqGuard, hk.free]
        rw [Sem.run_bind, hg]
        cases neg
        · simp only [cond_false, Result.andThen_ok, Bool.bne_false]; exact hb1
        · simp only [cond_true, Result.andThen_ok, Bool.bne_true]; exact hb2

/-- Bytes as cells. -/
abbrev u8 (b : UInt8) : AV := .int .u8 b.toNat
theorem eqAL_u8 : ∀ (as bs : List UInt8), eqAL (as.map u8) (bs.map u8) = (as == bs)
  | [], [] => rfl
  | [], _ :: _ => rfl
  | _ :: _, [] => rfl
  | a :: as, b :: bs => by
    simp only [List.map_cons, eqAL, beq1, eqAL_u8 as bs]
    show (((a.toNat : Int) == (b.toNat : Int)) && (as == bs)) = (a == b && as == bs)
    congr 1
    rw [Bool.eq_iff_iff]
    simp only [beq_iff_eq]
    constructor
    · intro h; exact UInt8.toNat_inj.1 (by omega)
    · intro h; rw [h]
end Go.Gp
