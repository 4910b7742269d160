/- Part of a proof: GpA33 -/
import Derived.Test.YtmacdhglhafldaaDoorK11

/- Statements whose order of evaluation is open and in which an operation dies. -/
namespace Go.Gp
open Go.RowKit
set_option linter.unusedVariables false
set_option linter.unusedSimpArgs false

structure DiesH (E : Env) (ro : Option Nat) (n : Nat) (o : Oper) (f : SFn) (H : List AObj) (P : List AObj → Prop) (v : AV) : Prop where
  nd : notDefer o
  out : ∀ (c : Cfg) (a : Act) (K : Act → World → Prop) (Q : Exit → Act → World → Prop), c.H = H → Ok E.G c → SF c n f a →
    (∀ ι' H' w' u, Ext c ⟨ι', H', w'⟩ → Ok E.G ⟨ι', H', w'⟩ → RelV ⟨ι', H', w'⟩ v u → P H' → Q (.panic [{ v := u, recovered := false }]) a w') → o.uponIn (Fc ro) 0 E.P a K Q ((execOp a.eval o).run E.P c.w)

section
variable {E : Env} {ro : Option Nat} {n : Nat} {ids : List Nat} {md : Region.Mode} {ops : Array Oper} {cl : List Nat} {P : List AObj → Prop} {v : AV}

def DieP (E : Env) (ro : Option Nat) (n : Nat) (ops : Array Oper) (k : Nat) (o : Oper) (f : SFn) (H : List AObj) (P : List AObj → Prop) (v : AV) : Prop :=
  k = 3 ∧ wantedF ops f o = some true ∧ DiesH E ro n o (restr (o.looksAt ops) f) H P v

def anyD (E : Env) (ro : Option Nat) (n : Nat) (ids : List Nat) (md : Region.Mode) (ops : Array Oper) (cl : List Nat) (P : List AObj → Prop) (v : AV) : Nat → Array Bool → SFn → List AObj → Prop
  | 0, _, _, _ => False
  | fuel + 1, listed, f, H => Region.ready md ops listed ≠ [] ∧
    ∀ i ∈ Region.ready md ops listed, ∀ o, ops[i]? = some o →
      (∃ av H', StepH E ro n ids ops (cl.getD i 2) o f H H' av ∧ anyD E ro n ids md ops cl P v fuel (listed.setIfInBounds i true) (putF o.dst av f) H') ∨ DieP E ro n ops (cl.getD i 2) o f H P v

theorem anyD_mono : ∀ {fuel : Nat} {listed : Array Bool} {f : SFn} {H : List AObj}, anyD E ro n ids md ops cl P v fuel listed f H → anyD E ro n ids md ops cl P v (fuel + 1) listed f H
  | 0, _, _, _, h => h.elim
  | fuel + 1, listed, f, H, h => ⟨h.1, fun i hi o ho => (h.2 i hi o ho).imp (fun ⟨av, H', h1, h2⟩ => ⟨av, H', h1, anyD_mono h2⟩) id⟩

theorem still_of_com {k : Nat} {o : Oper} {f : SFn} {H H1 : List AObj} {av : AV} (hc : comB k 3 = true) (h : StepH E ro n ids ops k o f H H1 av) : H1 = H := by
  obtain ⟨_, ⟨_, h⟩ | ⟨_, _, h⟩⟩ := h
  · match k, hc, h with
    | 0, _, h => exact h.1
    | 4, _, h => exact h.1
    | 1, hc, _ => exact absurd hc (by decide)
    | 2, hc, _ => exact absurd hc (by decide)
    | 3, hc, _ => exact absurd hc (by decide)
    | k + 5, hc, _ => exact absurd hc (by simp [comB]; omega)
  · exact h

theorem DieP.congr {k : Nat} {o : Oper} {f f' : SFn} {H : List AObj} (h : DieP E ro n ops k o f H P v) (he : ∀ d ∈ o.looksAt ops, f' d = f d) : DieP E ro n ops k o f' H P v := by
  have h1 := wantedF_congr (f := f) (f' := f') (ops := ops) (o := o) he
  have h2 : restr (o.looksAt ops) f' = restr (o.looksAt ops) f := by
    funext i
    unfold restr
    split
    · rename_i hi; exact he i hi
    · rfl
  unfold DieP at *
  rw [h1, h2]
  exact h

theorem anyD_first {i : Nat} {oi : Oper} {u : AV} (hi : ops[i]? = some oi) :
    ∀ (fuel : Nat) (listed : Array Bool) (f : SFn) (H H1 : List AObj),
      (∀ j oj, ops[j]? = some oj → j ≠ i → listed.getD j true = false → (∀ e ∈ oj.after, Region.binds md e = true → e.on ≠ i) → oi.apart ops oj = true ∧ comB (cl.getD i 2) (cl.getD j 2) = true) →
      i ∈ Region.ready md ops listed → StepH E ro n ids ops (cl.getD i 2) oi f H H1 u →
      anyD E ro n ids md ops cl P v fuel (listed.setIfInBounds i true) (putF oi.dst u f) H1 → anyD E ro n ids md ops cl P v (fuel + 1) listed f H := by
  intro fuel
  induction fuel with
  | zero => intro listed f H H1 _ _ _ HH; exact HH.elim
  | succ fuel ih =>
    intro listed f H H1 hfree hr hy HH
    refine ⟨fun h => (by rw [h] at hr; cases hr), fun j hj o ho => ?_⟩
    by_cases hji : j = i
    · subst hji
      rw [hi] at ho; injection ho with ho; subst ho
      exact .inl ⟨u, H1, hy, HH⟩
    · obtain ⟨hjun, oj, hoj, hall⟩ := mem_ready.1 hj
      rw [ho] at hoj; injection hoj with hoj; subst hoj
      have hnot : ∀ e ∈ o.after, Region.binds md e = true → e.on ≠ i := fun e he hb heq => by
        have h1 := hall e he hb
        have h0 := (mem_ready.1 hr).1
        rw [heq] at h1
        rcases Nat.lt_or_ge i listed.size with h' | h'
        · simp [h'] at h0 h1; rw [h0] at h1; cases h1
        · simp [Array.getElem?_eq_none h'] at h1
      obtain ⟨hap, hcl⟩ := hfree j o ho hji hjun hnot
      obtain ⟨a1, a2, a3⟩ := Oper.apart_spec hap
      rcases HH.2 j (ready_mono hj hji) o ho with ⟨w, H2, hu, hA⟩ | hdie
      · have hfree' : ∀ k ok, ops[k]? = some ok → k ≠ i → (listed.setIfInBounds j true).getD k true = false →
            (∀ e ∈ ok.after, Region.binds md e = true → e.on ≠ i) → oi.apart ops ok = true ∧ comB (cl.getD i 2) (cl.getD k 2) = true := fun k ok hk hki hun hno => by
          refine hfree k ok hk hki ?_ hno
          by_cases hjk : j = k
          · subst hjk; exact hjun
          · rw [getD_set_ne true hjk] at hun; exact hun
        obtain ⟨H3, g1, g2⟩ := swapH (g := putF o.dst w f) hcl hy ((StepH.put_iff a1).1 hu) (fun A B h => (StepH.put_iff a3).2 h)
        refine .inl ⟨w, H3, g1, ih (listed.setIfInBounds j true) _ H3 H2 hfree' (ready_mono hr (Ne.symm hji)) g2 ?_⟩
        rw [Array.setIfInBounds_comm _ _ hji, ← putF_comm a2]
        exact hA
      · have hk3 := hdie.1
        rw [hk3] at hcl
        have hH := still_of_com hcl hy
        subst hH
        exact .inr (hdie.congr fun x hx => (putF_ne fun e => a1 x e hx).symm)

/-- The operations that come before the one that dies, in an order of ours. -/
def ordB (md : Region.Mode) (ops : Array Oper) (cl : List Nat) (p : Nat) : List Nat → Array Bool → Bool
  | [], listed => Region.ready md ops listed == [p]
  | i :: r, listed => (Region.ready md ops listed).contains i && Region.free md ops listed i && freeCl md ops cl listed i && ordB md ops cl p r (listed.setIfInBounds i true)

def chainD (E : Env) (ro : Option Nat) (n : Nat) (ids : List Nat) (ops : Array Oper) (cl : List Nat) (p : Nat) (P : List AObj → Prop) (v : AV) : List Nat → SFn → List AObj → Prop
  | [], f, H => ∃ o, ops[p]? = some o ∧ DieP E ro n ops (cl.getD p 2) o f H P v
  | i :: r, f, H => ∃ o av H', ops[i]? = some o ∧ StepH E ro n ids ops (cl.getD i 2) o f H H' av ∧ chainD E ro n ids ops cl p P v r (putF o.dst av f) H'

theorem anyD_ord {p : Nat} : ∀ (l : List Nat) (listed : Array Bool) (f : SFn) (H : List AObj), ordB md ops cl p l listed = true → chainD E ro n ids ops cl p P v l f H → anyD E ro n ids md ops cl P v (l.length + 1) listed f H
  | [], listed, f, H, hB, ⟨o, ho, hd⟩ => by
    have hr : Region.ready md ops listed = [p] := by simpa [ordB] using hB
    refine ⟨by rw [hr]; simp, fun i hi o' ho' => ?_⟩
    rw [hr] at hi
    have := List.mem_singleton.1 hi
    subst this
    rw [ho] at ho'; injection ho' with ho'; subst ho'
    exact .inr hd
  | i :: r, listed, f, H, hB, ⟨o, av, H', ho, hs, hc⟩ => by
    simp only [ordB, Bool.and_eq_true] at hB
    obtain ⟨⟨⟨h1, h2⟩, h3⟩, h4⟩ := hB
    exact anyD_first ho (r.length + 1) listed f H H' (fun j oj hj hne hun hno => ⟨Region.free_spec ho h2 j oj hj hne hun hno, freeCl_spec h3 j oj hj hne hun hno⟩) (by simpa using h1) hs (anyD_ord r _ _ H' h4 hc)

theorem chainD_less {p : Nat} : ∀ (l : List Nat) {f f' : SFn} {H : List AObj}, Less f' f → chainD E ro n ids ops cl p P v l f' H → chainD E ro n ids ops cl p P v l f H
  | [], f, f', H, hl, ⟨o, ho, h1, h2, h3⟩ => ⟨o, ho, h1, wantedF_less hl h2, ⟨h3.nd, fun c a K Q e1 e2 e3 e4 => h3.out c a K Q e1 e2 (e3.less (hl.restr _)) e4⟩⟩
  | i :: r, f, f', H, hl, ⟨o, av, H', ho, hs, hc⟩ => ⟨o, av, H', ho, hs.less hl, chainD_less r (hl.put o.dst av) hc⟩

theorem wpAny_of_D {Q : Exit → Act → World → Prop} {cd : DC} {c0 : Cfg} (hQ : ∀ (c : Cfg) (a : Act) u, Ext c0 c → P c.H → Ok E.G c → a.tmps.size = n → DefOk cd c a → RelV c v u → Q (.panic [{ v := u, recovered := false }]) a c.w) :
    ∀ (fuel : Nat) (listed : Array Bool) (f : SFn) (H : List AObj) (c : Cfg) (a : Act), anyD E ro n ids md ops cl P v fuel listed f H → Ext c0 c → c.H = H → Ok E.G c → SF c n f a → DefOk cd c a →
      wpAnyIn (Fc ro) 0 E.P md ops Q fuel listed a c.w
  | 0, listed, f, H, c, a, h, e1, e2, e3, e4, e5 => h.elim
  | fuel + 1, listed, f, H, c, a, h, e1, e2, e3, e4, e5 => by
    refine ⟨fun h0 => absurd h0 h.1, fun i hi => ?_⟩
    unfold wpOpIn
    cases ho : ops[i]? with
    | none =>
      obtain ⟨_, o, ho', _⟩ := mem_ready.1 hi
      rw [ho] at ho'; cases ho'
    | some o =>
      simp only
      rcases h.2 i hi o ho with ⟨av, H', ⟨hdn, hs⟩, hA⟩ | ⟨_, hw, hd⟩
      · have hput : ∀ (c' : Cfg) (v : Value), SF c' n f a → RelV c' av v → SF c' n (putF o.dst av f) (a.put o.dst v) := fun c' v hs' hv => by
          cases hd : o.dst with
          | none => exact hs'
          | some d => exact hs'.put (hdn d hd) hv
        have hdef : ∀ (v : Value), (a.put o.dst v).defers = a.defers := fun v => by cases o.dst <;> rfl
        rcases hs with ⟨hw, hdo⟩ | ⟨hw, rfl, rfl⟩
        · simp only [wantedF_eq e4 hw, if_true]
          refine ⟨fun g _ => Fc_fn ro g, ?_⟩
          rw [Oper.semAt_eq _ _ _ hdo.does.nd]
          refine hdo.does.out c a _ _ e2 e3 (e4.less (restr_less _ _)) fun ι' w' v hx hok hv => ?_
          exact wpAny_of_D hQ fuel _ _ H' ⟨ι', H', w'⟩ _ hA (e1.trans hx) rfl hok (hput _ v (e4.mono hx) hv) (e5.mono hx (hdef v))
        · simp only [wantedF_eq e4 hw, Bool.false_eq_true, if_false]
          refine ⟨fun g _ => Fc_fn ro g, ?_⟩
          exact wpAny_of_D hQ fuel _ _ _ c _ hA e1 e2 e3 (hput _ undef e4 (.tup [] rfl (fun i a v h => by simp at h))) (e5.mono (Ext.refl c) (hdef _))
      · simp only [wantedF_eq e4 hw, if_true]
        refine ⟨fun g _ => Fc_fn ro g, ?_⟩
        rw [Oper.semAt_eq _ _ _ hd.nd]
        refine hd.out c a _ _ e2 e3 (e4.less (restr_less _ _)) fun ι' H' w' u hx hok hv hP => ?_
        exact hQ ⟨ι', H', w'⟩ a u (e1.trans hx) hP hok e4.size (e5.mono hx rfl) hv

/-- The walk up to the operation that dies. -/
inductive LexD (E : Env) (ro : Option Nat) (n : Nat) (ids : List Nat) (ops : Array Oper) (cl : List Nat) (p : Nat) (P : List AObj → Prop) (v : AV) : List Nat → Slots → List AObj → Prop
  | die {o : Oper} {t : Slots} {H : List AObj} (ho : ops[p]? = some o) (h : DieP E ro n ops (cl.getD p 2) o (look t) H P v) : LexD E ro n ids ops cl p P v [] t H
  | cons {i : Nat} {r : List Nat} {o : Oper} {t : Slots} {H : List AObj} (av : AV) (H' : List AObj) (ho : ops[i]? = some o) (hs : StepH E ro n ids ops (cl.getD i 2) o (look t) H H' av) (h : LexD E ro n ids ops cl p P v r (putS o.dst av t) H') : LexD E ro n ids ops cl p P v (i :: r) t H
  | weak {r : List Nat} {t t' : Slots} {H : List AObj} (hl : Less (look t') (look t)) (h : LexD E ro n ids ops cl p P v r t' H) : LexD E ro n ids ops cl p P v r t H

theorem LexD.chain {p : Nat} {r : List Nat} {t : Slots} {H : List AObj} (h : LexD E ro n ids ops cl p P v r t H) : chainD E ro n ids ops cl p P v r (look t) H := by
  induction h with
  | die ho h => exact ⟨_, ho, h⟩
  | cons av H' ho hs h ih => rw [look_putS] at ih; exact ⟨_, av, H', ho, hs, ih⟩
  | weak hl h ih => exact chainD_less _ hl ih

/-- A STATEMENT WHOSE ORDER IS OPEN AND THAT DIES. -/
theorem WpA.drawX {K : Kont} {t : Slots} {H : List AObj} {id : Nat} {l : List Oper} {P : List AObj → Prop} {v : AV} (ids cl : List Nat) (p : Nat) (ord : List Nat) (hN : Nat.ble (ord.length + 1) l.length = true) (hB : ordB .any l.toArray cl p ord (Array.replicate l.toArray.size false) = true)
    (h : LexD E ro n ids l.toArray cl p P v ord t H) (hk : ∀ H', P H' → K (.panic v) [] H') : WpA E ro n (.region id l.toArray true) K t H := by
  refine ⟨?_⟩
  intro cd c0 c a e1 e2 e3 e4 e5
  have hdr := Ext.drew c
  have h1 := anyD_ord (md := .any) ord (Array.replicate l.toArray.size false) (look t) H hB h.chain
  have h2 : ∀ k, anyD E ro n ids .any l.toArray cl P v (ord.length + 1 + k) (Array.replicate l.toArray.size false) (look t) H := fun k => by
    induction k with
    | zero => exact h1
    | succ k ih => exact anyD_mono ih
  have h3 := h2 (l.length - (ord.length + 1))
  have hle := Nat.le_of_ble_eq_true hN
  rw [Nat.add_sub_cancel' hle] at h3
  refine wpIn_region_any E.mixed (wpAny_of_D (cd := (cd, E.marks)) (c0 := c0) (P := P) (v := v) (fun c' a' u q1 q2 q3 q4 q5 q6 => Post.mk (.panic v) q1 q3 ⟨q4, fun i => .unk⟩ q5 ⟨u, rfl, q6⟩ (hk _ q2)) _ _ _ H c.drew a (by simpa using h3) (e1.trans hdr) e2 (e3.step hdr e3.hr.drew) (e4.sf.mono hdr) (e5.mono hdr rfl))

section rules
variable {t : Slots} {H H' L : List AObj} {o : Oper} {r : List Nat} {i p d : Nat} {av : AV}

theorem LexD.p0 (ho : ops[i]? = some o) (hw : wantedA ops t o = some true) (hd : o.dst = some d) (hdn : Nat.blt d n = true) (hc : cl.getD i 2 = 0) (h : ∀ H0, P1 E n H0 H0 o (cutT (o.looksAt ops) t) av)
    (hk : LexD E ro n ids ops cl p P v r ((d, av) :: t) H) : LexD E ro n ids ops cl p P v (i :: r) t H :=
  .cons av H ho ⟨dst_some hd hdn, .inl ⟨hw, by rw [hc]; exact ⟨rfl, fun H0 => (h H0).does⟩⟩⟩ (by rw [hd]; exact hk)

theorem LexD.p4 (ho : ops[i]? = some o) (hw : wantedA ops t o = some true) (hd : o.dst = some d) (hdn : Nat.blt d n = true) (hc : cl.getD i 2 = 4) (h : ∀ H0, Like ids H H0 → P1 E n H0 H0 o (cutT (o.looksAt ops) t) av)
    (hk : LexD E ro n ids ops cl p P v r ((d, av) :: t) H) : LexD E ro n ids ops cl p P v (i :: r) t H :=
  .cons av H ho ⟨dst_some hd hdn, .inl ⟨hw, by rw [hc]; exact ⟨rfl, fun H0 h0 => (h H0 h0).does⟩⟩⟩ (by rw [hd]; exact hk)

theorem LexD.op0 (av : AV) (ho : ops[i]? = some o) (hw : wantedA ops t o = some true) (hd : o.dst = some d) (hdn : Nat.blt d n = true) (hc : cl.getD i 2 = 0) (hv : valA E t [] o.op = some av) (hb : ∀ n0, baseN E n0 t o.op = n0)
    (hk : LexD E ro n ids ops cl p P v r ((d, av) :: t) H) : LexD E ro n ids ops cl p P v (i :: r) t H :=
  .p0 ho hw hd hdn hc (fun H0 => by
    have := P1.op (E := E) (n := n) (o := o) (t := cutT (o.looksAt ops) t) (H := H0) (L := []) (av := av) (by rw [valA_congr fun x hx => ⟨evalA_cut hx, evalO_cut hx⟩]; exact hv) (by rw [baseN_congr fun x hx => evalA_cut hx]; exact hb _)
    rwa [List.append_nil] at this) hk

theorem LexD.load4 {ty j off : Nat} {ti : TI} {q : Operand} {cs : List AV} (av : AV) (ho : ops[i]? = some o) (hw : wantedA ops t o = some true) (hd : o.dst = some d) (hdn : Nat.blt d n = true) (hc : cl.getD i 2 = 4) (hop : o.op = .load ty q)
    (hp : evalA E.G t q = .ptr H.length j off) (hid : H.length + j ∈ ids) (hL : L[j]? = some (.cells cs)) (hi : lookT E.T ty = some ti) (hle : Nat.ble (off + ti.sz) cs.length = true) (hv : varA ti (cs.drop off) = some av)
    (hk : LexD E ro n ids ops cl p P v r ((d, av) :: t) (H ++ L)) : LexD E ro n ids ops cl p P v (i :: r) t (H ++ L) :=
  .p4 ho hw hd hdn hc (fun H0 h0 => .loadAt hop (by rw [evalA_cut (by rw [hop]; simp [Op.operands])]; exact hp) (h0 _ hid _ (app_get rfl hL)) hi hle hv) hk

theorem LexD.call {g : Nat} {caps : List AV} {f : Operand} {xs : List Operand} {ats : Array TypeId}
    (ho : ops[p]? = some o) (hw : wantedA ops t o = some true) (hc : cl.getD p 2 = 3) (hop : o.op = .call { callee := .value f, args := ⟨xs⟩, argTypes := ats }) (hf : evalA E.G t f = .func g caps)
    (hcall : CallsA E g (evalL E.G t xs ++ caps) H (fun e H' => P H' ∧ e = .panic v)) : LexD E ro n ids ops cl p P v [] t H := by
  refine .die ho ⟨hc, ?_, ?_⟩
  · have : wantedF ops (look t) o = wantedA ops t o := rfl
    rw [this]; exact hw
  · have hnd : notDefer o := fun cc e => by rw [hop] at e; cases e
    refine ⟨hnd, fun c a K Q e2 e3 e4 hK => ?_⟩
    rw [← look_cut_fn] at e4
    have e4 := e4.sr
    have hfr := eval_rel e3 e4 f
    have hmem : ∀ x, x = f ∨ x ∈ xs → x ∈ o.op.operands := fun x hx => by
      rw [hop]
      simp only [Op.operands, Call.operands]
      rcases hx with rfl | hx <;> simp [*]
    rw [evalA_cut (hmem f (.inl rfl)), hf] at hfr
    have hargs0 := evalL_rel e3 e4 xs
    rw [evalL_congr fun x hx => evalA_cut (hmem x (.inr hx))] at hargs0
    generalize hv : a.eval f = v' at hfr
    cases hfr with
    | func ws hl hr =>
      have hargs := hargs0.append (bs := caps) (us := ws) ⟨hl, hr⟩
      have hcall := hcall.out c _ e2 e3 hargs
      have hrun : (execOp a.eval o).run E.P c.w = (callFunc g (xs.map a.eval ++ ws).toArray).run E.P c.w := by
        simp [execOp, hop, resolve, hv, Deferred.ofValue, invoke]
      rw [hrun]
      revert hcall
      cases (callFunc g (xs.map a.eval ++ ws).toArray).run E.P c.w with
      | halt x w => intro h; exact h.elim
      | ok nx w =>
        cases nx <;> intro hcall <;> try exact hcall.elim
        case value v' =>
          obtain ⟨ι', H', x, a1, a2, a3, a4, rfl⟩ := hcall
          exact a3.elim
        case enter f' args' =>
          rw [Oper.uponIn_enter]
          refine ⟨fun h => (by rw [Fc_depth] at h; simp at h), ?_⟩
          rw [Fc_calls]
          refine Calls.mono hcall ?_
          rintro e w' ⟨ι', H', x, a1, a2, a3, a4, rfl⟩
          cases e with
          | returned v' => exact a3.elim
          | outgrown => exact a3.elim
          | panicked chain =>
            obtain ⟨u, rfl, hu⟩ := a3
            exact hK ι' H' w' u a1 a2 hu a4
end rules
end
theorem Like.one {H L L' : List AObj} {j : Nat} (h : ∀ ob, L[j]? = some ob → L'[j]? = some ob) : Like [H.length + j] (H ++ L) (H ++ L') := fun i hi ob ho => by
  have := List.mem_singleton.1 hi
  subst this
  rw [List.getElem?_append_right (by omega), Nat.add_sub_cancel_left] at ho ⊢
  exact h ob ho
end Go.Gp
