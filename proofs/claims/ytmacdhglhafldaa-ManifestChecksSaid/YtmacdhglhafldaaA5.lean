/- The rule for operations that leave memory alone; elements, calls. -/
import Derived.Test.YtmacdhglhafldaaA4
namespace Go.Gp
open Go.RowKit
set_option linter.unusedVariables false
set_option linter.unusedSimpArgs false

theorem len_sound {E : Env} {c : Cfg} {ty : Nat} {ty0 : TypeId} {x av : AV} {v : Value} (h : lenA E.T ty x = some av) (hr : RelV c x v) :
    ∃ r, (Builtin.len_ #[ty] ty0 #[v]).run E.P c.w = .ok r c.w ∧ RelV c av r := by
  unfold lenA at h
  split at h
  · rename_i s hl
    obtain ⟨i, hi, hd⟩ := Option.map_eq_some_iff.1 hl
    obtain ⟨d, hu, hok⟩ := (Env.ti hi).u
    rw [hd] at hok
    have hok' : d = .string := hok
    subst hok'
    cases hr
    injection h with h
    subst h
    refine ⟨_, ?_, .int⟩
    simp [Builtin.len_, run_underlying hu, goInt]
    show ((s.toArray.size : Nat) : Int) = _
    simp
  · rename_i e t z xs hl
    obtain ⟨i, hi, hd⟩ := Option.map_eq_some_iff.1 hl
    obtain ⟨d, hu, hok⟩ := (Env.ti hi).u
    rw [hd] at hok
    have hok' : d = .slice e := hok
    subst hok'
    cases hr with
    | sl vs hl' hc hz ht hf hr =>
      injection h with h
      subst h
      refine ⟨_, ?_, .int⟩
      simp [Builtin.len_, run_underlying hu, goInt]
      omega
  · rename_i e m j off z len hl
    obtain ⟨i, hi, hd⟩ := Option.map_eq_some_iff.1 hl
    obtain ⟨d, hu, hok⟩ := (Env.ti hi).u
    rw [hd] at hok
    have hok' : d = .slice e := hok
    subst hok'
    cases hr with
    | os hb hc =>
      injection h with h
      subst h
      refine ⟨_, ?_, .int⟩
      simp [Builtin.len_, run_underlying hu, goInt]
  · rename_i m e hl
    obtain ⟨i, hi, hd⟩ := Option.map_eq_some_iff.1 hl
    obtain ⟨d, hu, hok⟩ := (Env.ti hi).u
    rw [hd] at hok
    have hok' : d = .array m e := hok
    subst hok'
    injection h with h
    subst h
    refine ⟨_, ?_, .int⟩
    simp [Builtin.len_, run_underlying hu, goInt]
  · simp at h

theorem conv_sound {E : Env} {c : Cfg} {src dst : Nat} {i0 : TI} {x av : AV} {v : Value} (hs : lookT E.T src = some i0) (h : convA E.T dst x = some av) (hr : RelV c x v) :
    ∃ r, (convert src dst v).run E.P c.w = .ok r c.w ∧ RelV c av r := by
  obtain ⟨d0, hu0, _⟩ := (Env.ti hs).u
  unfold convA at h
  split at h
  · split at h
    · rename_i k hl
      obtain ⟨i, hi, hd⟩ := Option.map_eq_some_iff.1 hl
      obtain ⟨d, hu, hok⟩ := (Env.ti hi).u
      rw [hd] at hok
      have hok' : d = .int k := hok
      subst hok'
      cases hr
      injection h with h
      subst h
      refine ⟨_, ?_, .int⟩
      unfold convert
      simp only [Sem.run_bind, run_underlying hu0, run_underlying hu, Result.andThen_ok, Conv.intToInt, Sem.run_pure]
    · simp at h
  · split at h
    · rename_i hl
      obtain ⟨i, hi, hd⟩ := Option.map_eq_some_iff.1 hl
      obtain ⟨d, hu, hok⟩ := (Env.ti hi).u
      rw [hd] at hok
      have hok' : d = .string := hok
      subst hok'
      cases hr
      injection h with h
      subst h
      refine ⟨_, ?_, .str⟩
      unfold convert
      simp only [Sem.run_bind, run_underlying hu0, run_underlying hu, Result.andThen_ok, Sem.run_pure]
    · simp at h
  · simp at h

theorem part_sound {E : Env} {c : Cfg} {ft : Nat} {j : TI} {cs : List AV} {ws : List Value} {off : Nat} {av : AV} (hj : lookT E.T ft = some j) (hr : RelL c cs ws) (h : partA j cs off = some av) :
    ∃ r, (part ft ws.toArray off).run E.P c.w = .ok r c.w ∧ RelV c av r := by
  unfold partA at h
  unfold part
  simp only [Sem.run_bind, underlying_agg hj, Result.andThen_ok]
  cases hg : j.d.agg with
  | true =>
    rw [hg] at h
    simp only [cond_true] at h
    cases hb : Nat.ble (off + j.sz) cs.length with
    | false => rw [hb] at h; simp at h
    | true =>
      rw [hb] at h
      simp only [cond_true, Option.some.injEq] at h
      subst h
      simp only [if_true, Sem.run_bind, run_sizeOf hj, Result.andThen_ok, Sem.run_pure]
      refine ⟨_, rfl, ?_⟩
      have h3 := (hr.drop off).take j.sz
      have e : ws.toArray.extract off (off + j.sz) = ((ws.drop off).take j.sz).toArray := by
        simp [List.extract_toArray, List.take_drop, Nat.add_comm]
      rw [e]
      exact .agg _ h3.1 h3.2
  | false =>
    rw [hg] at h
    simp only [cond_false] at h
    obtain ⟨v, hv, hrv⟩ := hr.get h
    simp only [Bool.false_eq_true, if_false]
    refine ⟨v, ?_, hrv⟩
    simp [hv]

theorem valA_sound {E : Env} {c : Cfg} {n n0 : Nat} {t : Slots} {a : Act} {o : Oper} {av : AV} {H L : List AObj} (hH : c.H = H ++ L) (hn : H.length = n0) (ho : Ok E.G c) (s : SR c n t a) (h : valA E t L o.op = some av)
    (hb : baseN E n0 t o.op = n0) :
    ∃ v, (execOp a.eval o).run E.P c.w = .ok (.value v) c.w ∧ RelV c av v := by
  have ev := fun x => eval_rel ho s x
  unfold valA at h
  split at h
  · rename_i x hop
    have h' := evalO_eq h
    exact ⟨a.eval x, by simp [execOp, hop], by rw [← h']; exact ev x⟩
  · rename_i x hop
    have h' := evalO_eq h
    exact ⟨a.eval x, by simp [execOp, hop], by rw [← h']; exact ev x⟩
  · rename_i x y z hop
    split at h
    · rename_i b hb
      have hc := ev x
      rw [hb] at hc
      have hv := hc.bool_inv
      have hx : (execOp a.eval o).run E.P c.w = .ok (.value (if b = true then a.eval y else a.eval z)) c.w := by simp [execOp, hop, hv, asBool]
      split at h
      · rename_i p q hp hq
        have hp := evalO_eq hp
        have hq := evalO_eq hq
        refine ⟨_, hx, ?_⟩
        rw [← pickO_eq h]
        exact pickA_rel (b := b) (by rw [← hp]; exact ev y) (by rw [← hq]; exact ev z)
      · rename_i p hp hq
        have hp := evalO_eq hp
        cases b with
        | true =>
          simp only [Option.some.injEq] at h
          subst h
          refine ⟨_, hx, ?_⟩
          rw [if_pos rfl, ← hp]
          exact ev y
        | false => simp at h
      · rename_i p hp hq
        have hq := evalO_eq hq
        cases b with
        | true => simp at h
        | false =>
          simp only [Option.some.injEq] at h
          subst h
          refine ⟨_, hx, ?_⟩
          rw [if_neg (by simp), ← hq]
          exact ev z
      · simp at h
    · simp at h
  · rename_i ty x hop
    split at h
    · rename_i i hi
      rw [hop] at hb
      obtain ⟨r, h1, h2⟩ := loadA_sound hH hn ho.hr hi h (ev x) (by simpa only [baseN] using hb)
      exact ⟨r, by simp [execOp, hop, h1], h2⟩
    · simp at h
  · rename_i ss x f hop
    split at h
    · rename_i off j hf
      cases hz : Nat.beq j.sz 0 with
      | true => rw [hz] at h; simp at h
      | false =>
        rw [hz] at h
        simp only [cond_false] at h
        obtain ⟨gs, g, hu, hg, hoff, hj⟩ := fieldOf_spec hf
        obtain ⟨p, hp, hr⟩ := addrAdd_rel h (ev x)
        refine ⟨_, ?_, hr⟩
        have hne : j.sz ≠ 0 := fun e => by rw [e] at hz; simp at hz
        simp [execOp, hop, hp, Instr.fieldAt, run_underlying hu, hg, Instr.sureAddr, fieldPlace, run_sizeOf hj, hne, hoff]
    · simp at h
  · rename_i ss x f hop
    split at h
    · rename_i off j cs hf hx
      obtain ⟨gs, g, hu, hg, hoff, hj⟩ := fieldOf_spec hf
      have hr := ev x
      rw [hx] at hr
      generalize hv : a.eval x = v at hr
      cases hr with
      | agg ws hl hr =>
        obtain ⟨r, h1, h2⟩ := part_sound hj ⟨hl, hr⟩ h
        refine ⟨r, ?_, h2⟩
        simp [execOp, hop, hv, Instr.field, run_underlying hu, hg, asAgg, hoff, h1]
    · simp at h
  · rename_i x i hop
    split at h
    · rename_i vs hx
      have hr := ev x
      rw [hx] at hr
      generalize hv : a.eval x = v at hr
      cases hr with
      | tup ws hl hr =>
        obtain ⟨u, hu, hru⟩ := RelL.get (c := c) ⟨hl, hr⟩ h
        refine ⟨u, ?_, hru⟩
        simp [execOp, hop, hv, Instr.extract, hu]
    · simp at h
  · rename_i ty x hop
    split at h
    · rename_i b hb
      have hc := ev x
      rw [hb] at hc
      injection h with h; subst h
      exact ⟨_, by simp [execOp, hop, hc.bool_inv, Op.unary], .bool⟩
    · simp at h
  · rename_i ty x hop
    split at h
    · rename_i k m hb
      have hc := ev x
      rw [hb] at hc
      generalize hv : a.eval x = v at hc
      cases hc
      injection h with h; subst h
      exact ⟨_, by simp only [execOp, hop, hv, Op.unary, Op.intArith, Sem.run_bind, Sem.run_pure, Result.andThen_ok], .int⟩
    · simp at h
  · rename_i ty x hop
    split at h
    · rename_i k m hb
      have hc := ev x
      rw [hb] at hc
      generalize hv : a.eval x = v at hc
      cases hc
      injection h with h; subst h
      exact ⟨_, by simp [execOp, hop, hv, Op.unary, Op.intBits], .int⟩
    · simp at h
  · rename_i op ty x y yt hop
    obtain ⟨r, h1, h2⟩ := binA_sound (ox := x) (oy := y) h (ev x) (ev y)
    refine ⟨r, ?_, h2⟩
    simp only [execOp, hop, Sem.run_bind] at h1 ⊢
    rw [h1]
    rfl
  · rename_i src dst x hop
    split at h
    · rename_i i0 hs
      obtain ⟨r, h1, h2⟩ := conv_sound hs h (ev x)
      exact ⟨r, by simp [execOp, hop, h1], h2⟩
    · simp at h
  · rename_i g cs hop
    injection h with h; subst h
    have hr := evalL_rel ho s cs
    refine ⟨_, ?_, .func (cs.map a.eval) hr.1 hr.2⟩
    simp [execOp, hop, Instr.makeFunc]
  · rename_i x hop
    split at h
    · rename_i m j off hx
      have hr := ev x
      rw [hx] at hr
      injection h with h; subst h
      generalize hv : a.eval x = v at hr
      cases hr with
      | ptr hb => exact ⟨_, by simp [execOp, hop, hv], .ptr hb⟩
    · rename_i cs hx
      have hr := ev x
      rw [hx] at hr
      injection h with h; subst h
      generalize hv : a.eval x = v at hr
      cases hr with
      | rp vs hs hf hr => exact ⟨_, by simp [execOp, hop, hv], .rp vs hs hf hr⟩
    · rename_i g cs hx
      have hr := ev x
      rw [hx] at hr
      injection h with h; subst h
      generalize hv : a.eval x = v at hr
      cases hr with
      | func ws hl hr => exact ⟨_, by simp [execOp, hop, hv], .func ws hl hr⟩
    · simp at h
  · rename_i x ty hop
    obtain ⟨r, h1, h2⟩ := len_sound (ty0 := o.type) h (ev x)
    refine ⟨r, ?_, h2⟩
    simp [execOp, hop, resolve, invoke, builtin, h1]
  · simp at h

theorem valA_notDefer {E : Env} {t : Slots} {L : List AObj} {o : Oper} {av : AV} (h : valA E t L o.op = some av) : notDefer o := by
  intro cc e
  rw [e] at h
  simp [valA] at h

section rules
variable {E : Env} {ro : Option Nat} {n : Nat} {K : Kont} {t : Slots} {H : List AObj} {ops : Array Oper} {o : Oper} {rest : List Oper}

/-- AN OPERATION THAT LEAVES MEMORY ALONE. -/
theorem WpOps.op {d : Nat} {L : List AObj} (av : AV) (hw : wantedA ops t o = some true) (hd : o.dst = some d) (hdn : Nat.blt d n = true) (hv : valA E t L o.op = some av) (hb : baseN E H.length t o.op = H.length)
    (hk : WpOps E ro n ops rest K ((d, av) :: t) (H ++ L)) : WpOps E ro n ops (o :: rest) K t (H ++ L) :=
  .value hw hd hdn (valA_notDefer hv) (fun c a hH ho s => by
    obtain ⟨v, h1, h2⟩ := valA_sound hH rfl ho s hv hb
    exact ⟨v, c.ι, c.w, h1, by rw [← hH]; exact Ext.refl c, by rw [← hH]; exact ho.hr, by rw [← hH]; exact h2⟩) hk

/-- Where a guard hangs on a bool that isn't known: both. -/
def guardSlot (ops : Array Oper) (o : Oper) : Option Nat := match o.guard with
  | none => none
  | some (j, _) => (ops[j]?).bind (·.dst)

/-- A mark in the slots: this one has just been parted. -/
def headNe : Slots → Nat → Bool
  | (j, _) :: _, d => !Nat.beq j (d + 1000000)
  | [], _ => true

theorem SR.unk_cons {c : Cfg} {n : Nat} {t : Slots} {a : Act} (s : SR c n t a) (d : Nat) : SR c n ((d, .unk) :: t) a := by
  refine ⟨s.size, fun i => ?_⟩
  unfold look
  cases hb : Nat.beq d i with
  | true => simp only [cond_true]; exact .unk
  | false => simp only [cond_false]; exact s.rel i

theorem WpOps.forget {l : List Oper} {d : Nat} (h : WpOps E ro n ops l K ((d, .unk) :: t) H) : WpOps E ro n ops l K t H :=
  ⟨fun cd c0 c a e1 e2 e3 e4 e5 => h.out cd c0 c a e1 e2 e3 (e4.unk_cons d) e5⟩

theorem WpOps.gsplit {d : Nat} (b : Bool) (hd : guardSlot ops o = some d) (hh : headNe t d = true) (hb : look t d = .bool b)
    (h1 : b = true → WpOps E ro n ops (o :: rest) K ((d + 1000000, .unk) :: (d, .bool true) :: t) H) (h2 : b = false → WpOps E ro n ops (o :: rest) K ((d + 1000000, .unk) :: (d, .bool false) :: t) H) :
    WpOps E ro n ops (o :: rest) K t H := .split d b hb (fun h => .forget (h1 h)) (fun h => .forget (h2 h))
end rules

end Go.Gp
