/- Part of a proof: GpA33 -/
import Derived.Test.YtmacdhglhafldaaDoorK10

/- Statements whose order of evaluation is open and in which an operation dies. -/
namespace Go.Gp
open Go.RowKit
set_option linter.unusedVariables false
set_option linter.unusedSimpArgs false

structure DiesH (E : Env) (ro : Option Nat) (n : Nat) (o : Oper) (f : SFn) (H : List AObj) (P : List AObj → Prop) (v : AV) : Prop where
  nd : notDefer o
  out : ∀ (c : Cfg) (a : Act) (K : Act → World → Prop) (Q : Exit → Act → World → Prop), c.H = H → Ok E.G c → SF c n f a →
    (∀ ι' H' w' u, Ext c ⟨ι', H', w'⟩ → Ok E.G ⟨ι', H', w'⟩ → RelV ⟨ι', H', w'⟩ v u → P H' → Q (.panic [{ v := u, recovered := false }]) a w') → o.uponIn (Fc ro) 0 E.P a K Q ((execOp a.eval o).run E.P c.w)

section
variable {E : Env} {ro : Option Nat} {n : Nat} {ids : List Nat} {md : Region.Mode} {ops : Array Oper} {cl : List Nat} {P : List AObj → Prop} {v : AV}

def DieP (E : Env) (ro : Option Nat) (n : Nat) (ops : Array Oper) (k : Nat) (o : Oper) (f : SFn) (H : List AObj) (P : List AObj → Prop) (v : AV) : Prop :=
  k = 3 ∧ wantedF ops f o = some true ∧ DiesH E ro n o (restr (o.looksAt ops) f) H P v

theorem DieP.congr {k : Nat} {o : Oper} {f f' : SFn} {H : List AObj} (h : DieP E ro n ops k o f H P v) (he : ∀ d ∈ o.looksAt ops, f' d = f d) : DieP E ro n ops k o f' H P v := by
  have h1 := wantedF_congr (f := f) (f' := f') (ops := ops) (o := o) he
  have h2 : restr (o.looksAt ops) f' = restr (o.looksAt ops) f := by
    funext i
    unfold restr
    split
    · rename_i hi; exact he i hi
    · rfl
  unfold DieP at *
  rw [h1, h2]
  exact h

def chainD (E : Env) (ro : Option Nat) (n : Nat) (ids : List Nat) (ops : Array Oper) (cl : List Nat) (p : Nat) (P : List AObj → Prop) (v : AV) : List Nat → SFn → List AObj → Prop
  | [], f, H => ∃ o, ops[p]? = some o ∧ DieP E ro n ops (cl.getD p 2) o f H P v
  | i :: r, f, H => ∃ o av H', ops[i]? = some o ∧ StepH E ro n ids ops (cl.getD i 2) o f H H' av ∧ chainD E ro n ids ops cl p P v r (putF o.dst av f) H'

theorem chainD_less {p : Nat} : ∀ (l : List Nat) {f f' : SFn} {H : List AObj}, Less f' f → chainD E ro n ids ops cl p P v l f' H → chainD E ro n ids ops cl p P v l f H
  | [], f, f', H, hl, ⟨o, ho, h1, h2, h3⟩ => ⟨o, ho, h1, wantedF_less hl h2, ⟨h3.nd, fun c a K Q e1 e2 e3 e4 => h3.out c a K Q e1 e2 (e3.less (hl.restr _)) e4⟩⟩
  | i :: r, f, f', H, hl, ⟨o, av, H', ho, hs, hc⟩ => ⟨o, av, H', ho, hs.less hl, chainD_less r (hl.put o.dst av) hc⟩

/-- The walk up to the operation that dies. -/
inductive LexD (E : Env) (ro : Option Nat) (n : Nat) (ids : List Nat) (ops : Array Oper) (cl : List Nat) (p : Nat) (P : List AObj → Prop) (v : AV) : List Nat → Slots → List AObj → Prop
  | die {o : Oper} {t : Slots} {H : List AObj} (ho : ops[p]? = some o) (h : DieP E ro n ops (cl.getD p 2) o (look t) H P v) : LexD E ro n ids ops cl p P v [] t H
  | cons {i : Nat} {r : List Nat} {o : Oper} {t : Slots} {H : List AObj} (av : AV) (H' : List AObj) (ho : ops[i]? = some o) (hs : StepH E ro n ids ops (cl.getD i 2) o (look t) H H' av) (h : LexD E ro n ids ops cl p P v r (putS o.dst av t) H') : LexD E ro n ids ops cl p P v (i :: r) t H
  | weak {r : List Nat} {t t' : Slots} {H : List AObj} (hl : Less (look t') (look t)) (h : LexD E ro n ids ops cl p P v r t' H) : LexD E ro n ids ops cl p P v r t H

theorem LexD.chain {p : Nat} {r : List Nat} {t : Slots} {H : List AObj} (h : LexD E ro n ids ops cl p P v r t H) : chainD E ro n ids ops cl p P v r (look t) H := by
  induction h with
  | die ho h => exact ⟨_, ho, h⟩
  | cons av H' ho hs h ih => rw [look_putS] at ih; exact ⟨_, av, H', ho, hs, ih⟩
  | weak hl h ih => exact chainD_less _ hl ih

section rules
variable {t : Slots} {H H' L : List AObj} {o : Oper} {r : List Nat} {i p d : Nat} {av : AV}

theorem LexD.p0 (ho : ops[i]? = some o) (hw : wantedA ops t o = some true) (hd : o.dst = some d) (hdn : Nat.blt d n = true) (hc : cl.getD i 2 = 0) (h : ∀ H0, P1 E n H0 H0 o (cutT (o.looksAt ops) t) av)
    (hk : LexD E ro n ids ops cl p P v r ((d, av) :: t) H) : LexD E ro n ids ops cl p P v (i :: r) t H :=
  .cons av H ho ⟨dst_some hd hdn, .inl ⟨hw, by rw [hc]; exact ⟨rfl, fun H0 => (h H0).does⟩⟩⟩ (by rw [hd]; exact hk)

theorem LexD.p4 (ho : ops[i]? = some o) (hw : wantedA ops t o = some true) (hd : o.dst = some d) (hdn : Nat.blt d n = true) (hc : cl.getD i 2 = 4) (h : ∀ H0, Like ids H H0 → P1 E n H0 H0 o (cutT (o.looksAt ops) t) av)
    (hk : LexD E ro n ids ops cl p P v r ((d, av) :: t) H) : LexD E ro n ids ops cl p P v (i :: r) t H :=
  .cons av H ho ⟨dst_some hd hdn, .inl ⟨hw, by rw [hc]; exact ⟨rfl, fun H0 h0 => (h H0 h0).does⟩⟩⟩ (by rw [hd]; exact hk)

theorem LexD.op0 (av : AV) (ho : ops[i]? = some o) (hw : wantedA ops t o = some true) (hd : o.dst = some d) (hdn : Nat.blt d n = true) (hc : cl.getD i 2 = 0) (hv : valA E t [] o.op = some av) (hb : ∀ n0, baseN E n0 t o.op = n0)
    (hk : LexD E ro n ids ops cl p P v r ((d, av) :: t) H) : LexD E ro n ids ops cl p P v (i :: r) t H :=
  .p0 ho hw hd hdn hc (fun H0 => by
    have := P1.op (E := E) (n := n) (o := o) (t := cutT (o.looksAt ops) t) (H := H0) (L := []) (av := av) (by rw [valA_congr fun x hx => ⟨evalA_cut hx, evalO_cut hx⟩]; exact hv) (by rw [baseN_congr fun x hx => evalA_cut hx]; exact hb _)
    rwa [List.append_nil] at this) hk

theorem LexD.load4 {ty j off : Nat} {ti : TI} {q : Operand} {cs : List AV} (av : AV) (ho : ops[i]? = some o) (hw : wantedA ops t o = some true) (hd : o.dst = some d) (hdn : Nat.blt d n = true) (hc : cl.getD i 2 = 4) (hop : o.op = .load ty q)
    (hp : evalA E.G t q = .ptr H.length j off) (hid : H.length + j ∈ ids) (hL : L[j]? = some (.cells cs)) (hi : lookT E.T ty = some ti) (hle : Nat.ble (off + ti.sz) cs.length = true) (hv : varA ti (cs.drop off) = some av)
    (hk : LexD E ro n ids ops cl p P v r ((d, av) :: t) (H ++ L)) : LexD E ro n ids ops cl p P v (i :: r) t (H ++ L) :=
  .p4 ho hw hd hdn hc (fun H0 h0 => .loadAt hop (by rw [evalA_cut (by rw [hop]; simp [Op.operands])]; exact hp) (h0 _ hid _ (app_get rfl hL)) hi hle hv) hk

theorem LexD.call {g : Nat} {caps : List AV} {f : Operand} {xs : List Operand} {ats : Array TypeId}
    (ho : ops[p]? = some o) (hw : wantedA ops t o = some true) (hc : cl.getD p 2 = 3) (hop : o.op = .call { callee := .value f, args := ⟨xs⟩, argTypes := ats }) (hf : evalA E.G t f = .func g caps)
    (hcall : CallsA E g (evalL E.G t xs ++ caps) H (fun e H' => P H' ∧ e = .panic v)) : LexD E ro n ids ops cl p P v [] t H := by
  refine .die ho ⟨hc, ?_, ?_⟩
  · have : wantedF ops (look t) o = wantedA ops t o := rfl
    rw [this]; exact hw
  · have hnd : notDefer o := fun cc e => by rw [hop] at e; cases e
    refine ⟨hnd, fun c a K Q e2 e3 e4 hK => ?_⟩
    rw [← look_cut_fn] at e4
    have e4 := e4.sr
    have hfr := eval_rel e3 e4 f
    have hmem : ∀ x, x = f ∨ x ∈ xs → x ∈ o.op.operands := fun x hx => by
      rw [hop]
      simp only [Op.operands, Call.operands]
      rcases hx with rfl | hx <;> simp [*]
    rw [evalA_cut (hmem f (.inl rfl)), hf] at hfr
    have hargs0 := evalL_rel e3 e4 xs
    rw [evalL_congr fun x hx => evalA_cut (hmem x (.inr hx))] at hargs0
    generalize hv : a.eval f = v' at hfr
    cases hfr with
    | func ws hl hr =>
      have hargs := hargs0.append (bs := caps) (us := ws) ⟨hl, hr⟩
      have hcall := hcall.out c _ e2 e3 hargs
      have hrun : (execOp a.eval o).run E.P c.w = (callFunc g (xs.map a.eval ++ ws).toArray).run E.P c.w := by
        simp [execOp, hop, resolve, hv, Deferred.ofValue, invoke]
      rw [hrun]
      revert hcall
      cases (callFunc g (xs.map a.eval ++ ws).toArray).run E.P c.w with
      | halt x w => intro h; exact h.elim
      | ok nx w =>
        cases nx <;> intro hcall <;> try exact hcall.elim
        case value v' =>
          obtain ⟨ι', H', x, a1, a2, a3, a4, rfl⟩ := hcall
          exact a3.elim
        case enter f' args' =>
          rw [Oper.uponIn_enter]
          refine ⟨fun h => (by rw [Fc_depth] at h; simp at h), ?_⟩
          rw [Fc_calls]
          refine Calls.mono hcall ?_
          rintro e w' ⟨ι', H', x, a1, a2, a3, a4, rfl⟩
          cases e with
          | returned v' => exact a3.elim
          | outgrown => exact a3.elim
          | panicked chain =>
            obtain ⟨u, rfl, hu⟩ := a3
            exact hK ι' H' w' u a1 a2 hu a4
end rules
end
theorem Like.one {H L L' : List AObj} {j : Nat} (h : ∀ ob, L[j]? = some ob → L'[j]? = some ob) : Like [H.length + j] (H ++ L) (H ++ L') := fun i hi ob ho => by
  have := List.mem_singleton.1 hi
  subst this
  rw [List.getElem?_append_right (by omega), Nat.add_sub_cancel_left] at ho ⊢
  exact h ob ho
end Go.Gp
