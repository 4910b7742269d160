/- Part of a proof: GpA10 -/
import Derived.Test.YtlmjiblfmhaicaaGreatDoorK4
import Derived.OrdersIn
import Derived.Still

set_option linter.unusedSectionVars false

/- Statements whose order of evaluation is open: one walk in the text's order, over abstract values. -/
namespace Go.Gp
open Go.RowKit
set_option linter.unusedVariables false
set_option linter.unusedSimpArgs false

abbrev SFn := Nat → AV

def putF : Option Nat → AV → SFn → SFn
  | none, _, f => f
  | some d, av, f => fun i => bif Nat.beq d i then av else f i

def restr (l : List Nat) (f : SFn) : SFn := fun i => if i ∈ l then f i else .unk

structure SF (c : Cfg) (n : Nat) (f : SFn) (a : Act) : Prop where
  size : a.tmps.size = n
  rel : ∀ i, RelV c (f i) (a.tmps.getD i undef)

theorem SF.sr {c : Cfg} {n : Nat} {t : Slots} {a : Act} (s : SF c n (look t) a) : SR c n t a := ⟨s.size, s.rel⟩
theorem SR.sf {c : Cfg} {n : Nat} {t : Slots} {a : Act} (s : SR c n t a) : SF c n (look t) a := ⟨s.size, s.rel⟩

/-- Less is known. -/
def Less (f' f : SFn) : Prop := ∀ i, f' i = .unk ∨ f' i = f i

theorem SF.less {c : Cfg} {n : Nat} {f f' : SFn} {a : Act} (s : SF c n f a) (h : Less f' f) : SF c n f' a :=
  ⟨s.size, fun i => by rcases h i with e | e <;> rw [e]; exact .unk; exact s.rel i⟩

theorem Less.refl (f : SFn) : Less f f := fun _ => .inr rfl
theorem Less.trans {f g k : SFn} (h : Less f g) (h' : Less g k) : Less f k := fun i => by
  rcases h i with e | e
  · exact .inl e
  · rw [e]; exact h' i
theorem Less.put {f' f : SFn} (h : Less f' f) (d : Option Nat) (v : AV) : Less (putF d v f') (putF d v f) := by
  cases d with
  | none => exact h
  | some d =>
    intro i
    show (bif Nat.beq d i then v else f' i) = .unk ∨ (bif Nat.beq d i then v else f' i) = (bif Nat.beq d i then v else f i)
    cases Nat.beq d i
    · exact h i
    · exact .inr rfl
theorem Less.restr {f' f : SFn} (h : Less f' f) (l : List Nat) : Less (restr l f') (restr l f) := fun i => by
  unfold Gp.restr
  split
  · exact h i
  · exact .inl rfl
theorem restr_less (l : List Nat) (f : SFn) : Less (restr l f) f := fun i => by
  unfold restr
  split
  · exact .inr rfl
  · exact .inl rfl

theorem SF.mono {c c' : Cfg} {n : Nat} {f : SFn} {a : Act} (h : Ext c c') (s : SF c n f a) : SF c' n f a := ⟨s.size, fun i => (s.rel i).mono h.toExt0⟩

theorem SF.put {c : Cfg} {n : Nat} {f : SFn} {a : Act} (s : SF c n f a) {d : Nat} {av : AV} {v : Value} (hd : d < n) (hv : RelV c av v) : SF c n (putF (some d) av f) (a.put (some d) v) := by
  refine ⟨by simp [Act.put, s.size], fun i => ?_⟩
  show RelV c (bif Nat.beq d i then av else f i) _
  cases hb : Nat.beq d i with
  | true =>
    have := Nat.eq_of_beq_eq_true hb
    subst this
    simp only [Act.put, cond_true]
    rw [Array.getD_eq_getD_getElem?, Array.getElem?_setIfInBounds, if_pos rfl, if_pos (by rw [s.size]; exact hd)]
    exact hv
  | false =>
    have hne : d ≠ i := fun e => by subst e; simp at hb
    simp only [Act.put, cond_false]
    rw [Array.getD_eq_getD_getElem?, Array.getElem?_setIfInBounds, if_neg hne, ← Array.getD_eq_getD_getElem?]
    exact s.rel i

def wantedF (ops : Array Oper) (f : SFn) (o : Oper) : Option Bool :=
  match o.guard with
  | none => some true
  | some (j, want) => match (ops[j]?).bind (·.dst) with
    | none => some false
    | some d => match f d with
      | .bool b => some (b == want)
      | .tup [] => some false
      | _ => none

theorem wantedF_eq {c : Cfg} {n : Nat} {f : SFn} {a : Act} {ops : Array Oper} {o : Oper} {b : Bool} (s : SF c n f a) (h : wantedF ops f o = some b) : Region.wanted o (yielded ops a.tmps) = b := by
  unfold wantedF at h
  unfold Region.wanted
  split at h
  · rename_i hg
    rw [hg]
    simpa using h
  · rename_i j want hg
    rw [hg]
    simp only [yielded]
    split at h
    · rename_i hd
      rw [hd]
      simp at h ⊢
      exact h
    · rename_i d hd
      rw [hd]
      simp only [Option.bind_some]
      have hr := s.rel d
      split at h
      · rename_i x hx
        rw [hx] at hr
        have hv := hr.bool_inv
        have : a.tmps[d]? = some (.bool x) := by
          rw [Array.getD_eq_getD_getElem?] at hv
          cases hq : a.tmps[d]? with
          | none => rw [hq] at hv; simp [undef] at hv
          | some u => rw [hq] at hv; simp at hv; rw [hv]
        rw [this]
        simp at h ⊢
        exact h
      · rename_i hx
        rw [hx] at hr
        have hv := hr.undef_inv
        have : ∀ x, a.tmps[d]? ≠ some (.bool x) := by
          intro x hq
          rw [Array.getD_eq_getD_getElem?, hq] at hv
          simp [undef] at hv
        simp only [Option.some.injEq] at h
        subst h
        cases hq : a.tmps[d]? with
        | none => rfl
        | some u => cases u <;> first | rfl | exact absurd hq (this _)
      · simp at h

theorem wantedF_less {f' f : SFn} (h : Less f' f) {ops : Array Oper} {o : Oper} {b : Bool} (hw : wantedF ops f' o = some b) : wantedF ops f o = some b := by
  unfold wantedF at hw ⊢
  cases hg : o.guard with
  | none => rw [hg] at hw; exact hw
  | some jw =>
    obtain ⟨j, want⟩ := jw
    rw [hg] at hw
    simp only at hw ⊢
    cases hd : (ops[j]?).bind (·.dst) with
    | none => rw [hd] at hw; exact hw
    | some d =>
      rw [hd] at hw
      simp only at hw ⊢
      rcases h d with e | e
      · rw [e] at hw; simp at hw
      · rw [← e]; exact hw

theorem wantedF_congr {f f' : SFn} {ops : Array Oper} {o : Oper} (h : ∀ d ∈ o.looksAt ops, f' d = f d) : wantedF ops f' o = wantedF ops f o := by
  unfold wantedF
  cases hg : o.guard with
  | none => rfl
  | some jw =>
    obtain ⟨j, want⟩ := jw
    simp only
    cases hd : (ops[j]?).bind (·.dst) with
    | none => rfl
    | some d =>
      simp only
      rw [h d (by unfold Oper.looksAt; simp only [hg, hd]; exact List.mem_append_right _ (by simp))]

/-- The operation yields this, whatever the world, and leaves the abstract heap as it was. -/
structure Does (E : Env) (ro : Option Nat) (n : Nat) (H : List AObj) (o : Oper) (f : SFn) (av : AV) : Prop where
  nd : notDefer o
  out : ∀ (c : Cfg) (a : Act) (K : Act → World → Prop) (Q : Exit → Act → World → Prop), c.H = H → Ok E.G c → SF c n f a →
    (∀ ι' w' v, Ext c ⟨ι', H, w'⟩ → Ok E.G ⟨ι', H, w'⟩ → RelV ⟨ι', H, w'⟩ av v → K (a.put o.dst v) w') → o.uponIn (Fc ro) 0 E.P a K Q ((execOp a.eval o).run E.P c.w)

theorem Does.less {E : Env} {ro : Option Nat} {n : Nat} {H : List AObj} {o : Oper} {f f' : SFn} {av : AV} (h : Does E ro n H o f' av) (hl : Less f' f) : Does E ro n H o f av :=
  ⟨h.nd, fun c a K Q h1 h2 h3 h4 => h.out c a K Q h1 h2 (h3.less hl) h4⟩

def StepF (E : Env) (ro : Option Nat) (n : Nat) (H : List AObj) (ops : Array Oper) (o : Oper) (f : SFn) (av : AV) : Prop :=
  (∃ d, o.dst = some d ∧ d < n) ∧ ((wantedF ops f o = some true ∧ Does E ro n H o (restr (o.looksAt ops) f) av) ∨ (wantedF ops f o = some false ∧ av = undefA))

section
variable {E : Env} {ro : Option Nat} {n : Nat} {H : List AObj} {ops : Array Oper} {md : Region.Mode}

theorem StepF.less {o : Oper} {f f' : SFn} {av : AV} (h : StepF E ro n H ops o f' av) (hl : Less f' f) : StepF E ro n H ops o f av :=
  ⟨h.1, h.2.imp (fun ⟨h1, h2⟩ => ⟨wantedF_less hl h1, h2.less (hl.restr _)⟩) (fun ⟨h1, h2⟩ => ⟨wantedF_less hl h1, h2⟩)⟩

theorem StepF.congr {o : Oper} {f f' : SFn} {av : AV} (h : StepF E ro n H ops o f av) (he : ∀ d ∈ o.looksAt ops, f' d = f d) : StepF E ro n H ops o f' av := by
  have h1 := wantedF_congr (f := f) (f' := f') (ops := ops) (o := o) he
  have h2 : restr (o.looksAt ops) f' = restr (o.looksAt ops) f := by
    funext i
    unfold restr
    split
    · rename_i hi; exact he i hi
    · rfl
  unfold StepF at *
  rw [h1, h2]
  exact h

theorem putF_ne {d : Option Nat} {v : AV} {f : SFn} {i : Nat} (h : d ≠ some i) : putF d v f i = f i := by
  cases d with
  | none => rfl
  | some d =>
    show (bif Nat.beq d i then v else f i) = f i
    cases hb : Nat.beq d i with
    | false => rfl
    | true => exact absurd (by rw [Nat.eq_of_beq_eq_true hb]) h

theorem StepF.put_iff {o : Oper} {f : SFn} {av : AV} {d : Option Nat} {v : AV} (hd : ∀ x, d = some x → x ∉ o.looksAt ops) : StepF E ro n H ops o (putF d v f) av ↔ StepF E ro n H ops o f av := by
  have he : ∀ x ∈ o.looksAt ops, putF d v f x = f x := fun x hx => putF_ne fun e => hd x e hx
  exact ⟨fun h => h.congr fun x hx => (he x hx).symm, fun h => h.congr he⟩

theorem putF_comm {x y : Option Nat} {v u : AV} {f : SFn} (h : ∀ d, x = some d → y ≠ some d) : putF y u (putF x v f) = putF x v (putF y u f) := by
  cases x with
  | none => rfl
  | some d =>
    cases y with
    | none => rfl
    | some e =>
      have hne : d ≠ e := fun he => h d rfl (he ▸ rfl)
      funext i
      show (bif Nat.beq e i then u else bif Nat.beq d i then v else f i) = (bif Nat.beq d i then v else bif Nat.beq e i then u else f i)
      cases h1 : Nat.beq e i <;> cases h2 : Nat.beq d i <;> try rfl
      exact absurd ((Nat.eq_of_beq_eq_true h2).trans (Nat.eq_of_beq_eq_true h1).symm) hne

/-- Whatever order is picked from here on. -/
def anyF (E : Env) (ro : Option Nat) (n : Nat) (H : List AObj) (md : Region.Mode) (ops : Array Oper) (Fin : SFn) : Nat → Array Bool → SFn → Prop
  | 0, listed, f => Region.ready md ops listed = [] ∧ f = Fin
  | fuel + 1, listed, f => (Region.ready md ops listed = [] → f = Fin) ∧
    ∀ i ∈ Region.ready md ops listed, ∀ o, ops[i]? = some o → ∃ av, StepF E ro n H ops o f av ∧ anyF E ro n H md ops Fin fuel (listed.setIfInBounds i true) (putF o.dst av f)

theorem anyF_first {Fin : SFn} {i : Nat} {oi : Oper} {v : AV} (hi : ops[i]? = some oi) :
    ∀ (fuel : Nat) (listed : Array Bool) (f : SFn),
      (∀ j oj, ops[j]? = some oj → j ≠ i → listed.getD j true = false → (∀ e ∈ oj.after, Region.binds md e = true → e.on ≠ i) → oi.apart ops oj = true) →
      i ∈ Region.ready md ops listed → StepF E ro n H ops oi f v →
      anyF E ro n H md ops Fin fuel (listed.setIfInBounds i true) (putF oi.dst v f) → anyF E ro n H md ops Fin (fuel + 1) listed f := by
  intro fuel
  induction fuel with
  | zero =>
    intro listed f _ hr hy HH
    refine ⟨fun h => (by rw [h] at hr; cases hr), fun j hj o ho => ?_⟩
    by_cases hji : j = i
    · subst hji
      rw [hi] at ho; injection ho with ho; subst ho
      exact ⟨v, hy, HH⟩
    · have := ready_mono hj hji
      rw [HH.1] at this
      cases this
  | succ fuel ih =>
    intro listed f hfree hr hy HH
    refine ⟨fun h => (by rw [h] at hr; cases hr), fun j hj o ho => ?_⟩
    by_cases hji : j = i
    · subst hji
      rw [hi] at ho; injection ho with ho; subst ho
      exact ⟨v, hy, HH⟩
    · obtain ⟨u, hu, hA⟩ := HH.2 j (ready_mono hj hji) o ho
      obtain ⟨hjun, oj, hoj, hall⟩ := mem_ready.1 hj
      rw [ho] at hoj; injection hoj with hoj; subst hoj
      have hnot : ∀ e ∈ o.after, Region.binds md e = true → e.on ≠ i := fun e he hb heq => by
        have h1 := hall e he hb
        have h0 := (mem_ready.1 hr).1
        rw [heq] at h1
        rcases Nat.lt_or_ge i listed.size with h' | h'
        · simp [h'] at h0 h1; rw [h0] at h1; cases h1
        · simp [Array.getElem?_eq_none h'] at h1
      obtain ⟨a1, a2, a3⟩ := Oper.apart_spec (hfree j o ho hji hjun hnot)
      have hfree' : ∀ k ok, ops[k]? = some ok → k ≠ i → (listed.setIfInBounds j true).getD k true = false →
          (∀ e ∈ ok.after, Region.binds md e = true → e.on ≠ i) → oi.apart ops ok = true := fun k ok hk hki hun hno => by
        refine hfree k ok hk hki ?_ hno
        by_cases hjk : j = k
        · subst hjk; exact hjun
        · rw [getD_set_ne true hjk] at hun; exact hun
      refine ⟨u, (StepF.put_iff a1).1 hu, ih (listed.setIfInBounds j true) _ hfree' (ready_mono hr (Ne.symm hji)) ((StepF.put_iff a3).2 hy) ?_⟩
      rw [Array.setIfInBounds_comm _ _ hji, ← putF_comm a2]
      exact hA

/-- The walk in the text's order, its end. -/
def chainF (E : Env) (ro : Option Nat) (n : Nat) (H : List AObj) (ops : Array Oper) : List Oper → SFn → SFn → Prop
  | [], f, Fin => f = Fin
  | o :: l, f, Fin => ∃ av, StepF E ro n H ops o f av ∧ chainF E ro n H ops l (putF o.dst av f) Fin

theorem anyF_lex {Fin : SFn} : ∀ (l : List Oper) (k : Nat) (listed : Array Bool) (f : SFn), (∀ j, l[j]? = ops[k + j]?) →
    Region.lexFrom md ops l.length k listed = true → chainF E ro n H ops l f Fin → anyF E ro n H md ops Fin l.length listed f
  | [], _, _, _, _, hB, h => ⟨by simpa [Region.lexFrom] using hB, h⟩
  | o :: l, k, listed, f, hl, hB, h => by
    have h0 : ops[k]? = some o := by simpa using (hl 0).symm
    simp only [List.length_cons, Region.lexFrom, Bool.and_eq_true] at hB
    obtain ⟨⟨hr, hf⟩, hB'⟩ := hB
    obtain ⟨v, hy, hK⟩ := h
    exact anyF_first h0 l.length listed f (Region.free_spec h0 hf) (by simpa using hr) hy
      (anyF_lex l (k + 1) _ _ (fun j => by have := hl (j + 1); simpa [Nat.add_assoc, Nat.add_comm 1 j] using this) hB' hK)

theorem chainF_less : ∀ (l : List Oper) {f f' Fin' : SFn}, Less f' f → chainF E ro n H ops l f' Fin' → ∃ Fin, chainF E ro n H ops l f Fin ∧ Less Fin' Fin
  | [], f, f', Fin', hl, h => ⟨f, rfl, by rw [← show f' = Fin' from h]; exact hl⟩
  | o :: l, f, f', Fin', hl, ⟨av, h1, h2⟩ => by
    obtain ⟨Fin, h3, h4⟩ := chainF_less l (hl.put o.dst av) h2
    exact ⟨Fin, ⟨av, h1.less hl, h3⟩, h4⟩

/-- Into the machine's own terms. -/
theorem wpAny_of_F {Fin : SFn} {Q : Exit → Act → World → Prop} {cd : DC} {c0 : Cfg} (hQ : ∀ (c : Cfg) (a : Act), Ext c0 c → c.H = H → Ok E.G c → SF c n Fin a → DefOk cd c a → Q .normal a c.w) :
    ∀ (fuel : Nat) (listed : Array Bool) (f : SFn) (c : Cfg) (a : Act), anyF E ro n H md ops Fin fuel listed f → Ext c0 c → c.H = H → Ok E.G c → SF c n f a → DefOk cd c a →
      wpAnyIn (Fc ro) 0 E.P md ops Q fuel listed a c.w
  | 0, listed, f, c, a, h, e1, e2, e3, e4, e5 => ⟨h.1, hQ c a e1 e2 e3 (by rw [← h.2]; exact e4) e5⟩
  | fuel + 1, listed, f, c, a, h, e1, e2, e3, e4, e5 => by
    refine ⟨fun h0 => hQ c a e1 e2 e3 (by rw [← h.1 h0]; exact e4) e5, fun i hi => ?_⟩
    unfold wpOpIn
    cases ho : ops[i]? with
    | none =>
      obtain ⟨_, o, ho', _⟩ := mem_ready.1 hi
      rw [ho] at ho'; cases ho'
    | some o =>
      obtain ⟨av, ⟨⟨d, hd, hdn⟩, hs⟩, hA⟩ := h.2 i hi o ho
      simp only
      rcases hs with ⟨hw, hdo⟩ | ⟨hw, rfl⟩
      · simp only [wantedF_eq e4 hw, if_true]
        refine ⟨fun g _ => Fc_fn ro g, ?_⟩
        rw [Oper.semAt_eq _ _ _ hdo.nd]
        refine hdo.out c a _ _ e2 e3 (e4.less (restr_less _ _)) fun ι' w' v hx hok hv => ?_
        rw [hd]
        exact wpAny_of_F hQ fuel _ _ ⟨ι', H, w'⟩ _ (by rw [hd] at hA; exact hA) (e1.trans hx) rfl hok ((e4.mono hx).put hdn hv) (e5.mono hx rfl)
      · simp only [wantedF_eq e4 hw, Bool.false_eq_true, if_false]
        refine ⟨fun g _ => Fc_fn ro g, ?_⟩
        rw [hd]
        exact wpAny_of_F hQ fuel _ _ c _ (by rw [hd] at hA; exact hA) e1 e2 e3 (e4.put hdn (.tup [] rfl (fun i a v h => by simp at h))) (e5.mono (Ext.refl c) rfl)

/-- The walk in the text's order. -/
inductive LexA (E : Env) (ro : Option Nat) (n : Nat) (H : List AObj) (ops : Array Oper) (Kc : Slots → Prop) : List Oper → Slots → Prop
  | nil {t : Slots} (h : Kc t) : LexA E ro n H ops Kc [] t
  | cons {o : Oper} {l : List Oper} {t : Slots} (d : Nat) (av : AV) (hd : o.dst = some d) (hs : StepF E ro n H ops o (look t) av) (h : LexA E ro n H ops Kc l ((d, av) :: t)) : LexA E ro n H ops Kc (o :: l) t
  | weak {l : List Oper} {t t' : Slots} (hl : Less (look t') (look t)) (h : LexA E ro n H ops Kc l t') : LexA E ro n H ops Kc l t

theorem LexA.chain {Kc : Slots → Prop} {l : List Oper} {t : Slots} (h : LexA E ro n H ops Kc l t) : ∃ Fin t', chainF E ro n H ops l (look t) Fin ∧ Kc t' ∧ Less (look t') Fin := by
  induction h with
  | nil h => exact ⟨_, _, rfl, h, Less.refl _⟩
  | cons d av hd hs h ih =>
    obtain ⟨Fin, t', h1, h2, h3⟩ := ih
    exact ⟨Fin, t', ⟨av, hs, by rw [hd]; exact h1⟩, h2, h3⟩
  | weak hl h ih =>
    obtain ⟨Fin, t', h1, h2, h3⟩ := ih
    obtain ⟨Fin', h4, h5⟩ := chainF_less _ hl h1
    exact ⟨Fin', t', h4, h2, h3.trans h5⟩

/-- A STATEMENT WHOSE ORDER IS OPEN. -/
theorem WpA.draw {K : Kont} {t : Slots} {id : Nat} {l : List Oper} (hB : Region.lexB .any l.toArray = true) (h : LexA E ro n H l.toArray (fun t' => K .normal t' H) l t) : WpA E ro n (.region id l.toArray true) K t H := by
  refine ⟨?_⟩
  intro cd c0 c a e1 e2 e3 e4 e5
  simp only [Region.lexB, Bool.and_eq_true] at hB
  obtain ⟨Fin, t', h1, h2, h3⟩ := h.chain
  have hdr := Ext.drew c
  have := anyF_lex (md := .any) l 0 (Array.replicate l.toArray.size false) (look t) (by simp) (by simpa using hB.2) h1
  refine wpIn_region_any E.mixed (wpAny_of_F (cd := (cd, E.marks)) (c0 := c0) (fun c' a' q1 q2 q3 q4 q5 => Post.mk .normal q1 q3 (q4.less h3).sr q5 trivial (by rw [q2]; exact h2)) _ _ _ c.drew a (by simpa using this) (e1.trans hdr) e2 (e3.step hdr e3.hr.drew) (e4.sf.mono hdr) (e5.mono hdr rfl))

/-! ### The walk's rules -/
def cutT (l : List Nat) (t : Slots) : Slots := t.filter fun p => l.contains p.1

theorem look_cut (l : List Nat) : ∀ (t : Slots) (i : Nat), look (cutT l t) i = restr l (look t) i
  | [], i => by unfold restr; split <;> rfl
  | (j, v) :: t, i => by
    have ih := look_cut l t i
    unfold cutT at ih ⊢
    rw [List.filter_cons]
    by_cases hj : l.contains j = true
    · rw [if_pos hj]
      unfold restr at ih ⊢
      unfold look
      cases hb : Nat.beq j i with
      | true =>
        have := Nat.eq_of_beq_eq_true hb
        subst this
        simp only [cond_true]
        rw [if_pos (by simpa using hj)]
      | false => simp only [cond_false]; exact ih
    · rw [if_neg hj]
      unfold restr at ih ⊢
      rw [ih]
      have hj' : j ∉ l := by simpa using hj
      by_cases hi : i ∈ l
      · rw [if_pos hi, if_pos hi]
        have hne : j ≠ i := fun e => by subst e; exact hj' hi
        show look t i = (bif Nat.beq j i then v else look t i)
        cases hb : Nat.beq j i with
        | true => exact absurd (Nat.eq_of_beq_eq_true hb) hne
        | false => rfl
      · rw [if_neg hi, if_neg hi]

theorem lookO_cut (l : List Nat) : ∀ (t : Slots) (i : Nat), i ∈ l → lookO (cutT l t) i = lookO t i
  | [], i, _ => rfl
  | (j, v) :: t, i, hi => by
    have ih := lookO_cut l t i hi
    unfold cutT at ih ⊢
    rw [List.filter_cons]
    by_cases hj : l.contains j = true
    · rw [if_pos hj]
      show (bif Nat.beq j i then some v else lookO (t.filter fun p => l.contains p.1) i) = (bif Nat.beq j i then some v else lookO t i)
      rw [ih]
    · rw [if_neg hj, ih]
      have hj' : j ∉ l := by simpa using hj
      have hne : j ≠ i := fun e => by subst e; exact hj' hi
      show lookO t i = (bif Nat.beq j i then some v else lookO t i)
      cases hb : Nat.beq j i with
      | true => exact absurd (Nat.eq_of_beq_eq_true hb) hne
      | false => rfl

theorem look_cut_fn (l : List Nat) (t : Slots) : look (cutT l t) = restr l (look t) := funext (look_cut l t)

theorem mem_looksAt {o : Oper} {i : Nat} (h : Operand.tmp i ∈ o.op.operands) : i ∈ o.looksAt ops :=
  List.mem_append_left _ (List.mem_filterMap.2 ⟨.tmp i, by simpa using h, rfl⟩)

theorem evalA_cut {o : Oper} {G : GEnv} {t : Slots} {x : Operand} (h : x ∈ o.op.operands) : evalA G (cutT (o.looksAt ops) t) x = evalA G t x := by
  cases x with
  | tmp i =>
    show look _ i = look t i
    rw [look_cut]
    unfold restr
    rw [if_pos (mem_looksAt h)]
  | _ => rfl

theorem evalO_cut {o : Oper} {G : GEnv} {t : Slots} {x : Operand} (h : x ∈ o.op.operands) : evalO G (cutT (o.looksAt ops) t) x = evalO G t x := by
  cases x with
  | tmp i => exact lookO_cut _ t i (mem_looksAt h)
  | _ => rfl

theorem evalL_congr {G : GEnv} {t t' : Slots} : ∀ {xs : List Operand}, (∀ x ∈ xs, evalA G t' x = evalA G t x) → evalL G t' xs = evalL G t xs
  | [], _ => rfl
  | x :: xs, h => by
    simp only [evalL]
    rw [h x List.mem_cons_self, evalL_congr fun y hy => h y (List.mem_cons_of_mem _ hy)]

/-- An operation that comes up, proved with all that is known in sight of what it looks at. -/
theorem LexA.value {Kc : Slots → Prop} {o : Oper} {l : List Oper} {t : Slots} {d : Nat} (av : AV) (hw : wantedA ops t o = some true) (hd : o.dst = some d) (hdn : Nat.blt d n = true) (hnd : notDefer o)
    (h : ∀ (c : Cfg) (a : Act), c.H = H → Ok E.G c → SR c n (cutT (o.looksAt ops) t) a → ∃ v ι' w', (execOp a.eval o).run E.P c.w = .ok (.value v) w' ∧ Ext c ⟨ι', H, w'⟩ ∧ HR ⟨ι', H, w'⟩ ∧ RelV ⟨ι', H, w'⟩ av v)
    (hk : LexA E ro n H ops Kc l ((d, av) :: t)) : LexA E ro n H ops Kc (o :: l) t := by
  refine .cons d av hd ⟨⟨d, hd, by simpa using hdn⟩, .inl ⟨hw, hnd, fun c a K Q e2 e3 e4 hK => ?_⟩⟩ hk
  rw [← look_cut_fn] at e4
  obtain ⟨v, ι', w', hr, hx, hh, hv⟩ := h c a e2 e3 e4.sr
  rw [hr, Oper.uponIn_value]
  exact hK ι' w' v hx (e3.step hx hh) hv

theorem LexA.skip {Kc : Slots → Prop} {o : Oper} {l : List Oper} {t : Slots} {d : Nat} (hw : wantedA ops t o = some false) (hd : o.dst = some d) (hdn : Nat.blt d n = true)
    (hk : LexA E ro n H ops Kc l ((d, undefA) :: t)) : LexA E ro n H ops Kc (o :: l) t :=
  .cons d undefA hd ⟨⟨d, hd, by simpa using hdn⟩, .inr ⟨hw, rfl⟩⟩ hk

theorem LexA.split {Kc : Slots → Prop} {l : List Oper} {t : Slots} (d : Nat) (b : Bool) (hb : look t d = .bool b) (h1 : b = true → LexA E ro n H ops Kc l ((d, .bool true) :: t)) (h2 : b = false → LexA E ro n H ops Kc l ((d, .bool false) :: t)) :
    LexA E ro n H ops Kc l t := by
  have key : ∀ v, look t d = v → Less (look ((d, v) :: t)) (look t) := fun v hv i => by
    refine .inr ?_
    show (bif Nat.beq d i then v else look t i) = look t i
    cases hq : Nat.beq d i with
    | false => rfl
    | true => have := Nat.eq_of_beq_eq_true hq; subst this; exact hv.symm
  cases b with
  | true => exact .weak (key _ hb) (h1 rfl)
  | false => exact .weak (key _ hb) (h2 rfl)

theorem LexA.forget {Kc : Slots → Prop} {l : List Oper} {t : Slots} {d : Nat} (h : LexA E ro n H ops Kc l ((d, .unk) :: t)) : LexA E ro n H ops Kc l t :=
  .weak (fun i => by
    show (bif Nat.beq d i then AV.unk else look t i) = _ ∨ (bif Nat.beq d i then AV.unk else look t i) = look t i
    cases Nat.beq d i
    · exact .inr rfl
    · exact .inl rfl) h

theorem LexA.gsplit {Kc : Slots → Prop} {o : Oper} {l : List Oper} {t : Slots} {d : Nat} (b : Bool) (hd : guardSlot ops o = some d) (hh : headNe t d = true) (hb : look t d = .bool b)
    (h1 : b = true → LexA E ro n H ops Kc (o :: l) ((d + 1000000, .unk) :: (d, .bool true) :: t)) (h2 : b = false → LexA E ro n H ops Kc (o :: l) ((d + 1000000, .unk) :: (d, .bool false) :: t)) :
    LexA E ro n H ops Kc (o :: l) t := .split d b hb (fun h => .forget (h1 h)) (fun h => .forget (h2 h))

/-- A CALL in a statement whose order is open. -/
theorem LexA.call {Kc : Slots → Prop} {o : Oper} {l : List Oper} {t : Slots} {d g : Nat} {caps : List AV} {f : Operand} {xs : List Operand} {ats : Array TypeId} {r : AV}
    (hw : wantedA ops t o = some true) (hd : o.dst = some d) (hdn : Nat.blt d n = true) (hop : o.op = .call { callee := .value f, args := ⟨xs⟩, argTypes := ats }) (hf : evalA E.G t f = .func g caps)
    (hc : CallsA E g (evalL E.G t xs ++ caps) H (Is H r))
    (hk : LexA E ro n H ops Kc l ((d, r) :: t)) : LexA E ro n H ops Kc (o :: l) t := by
  have hnd : notDefer o := fun cc e => by rw [hop] at e; cases e
  refine .cons d r hd ⟨⟨d, hd, by simpa using hdn⟩, .inl ⟨hw, hnd, fun c a K Q e2 e3 e4 hK => ?_⟩⟩ hk
  rw [← look_cut_fn] at e4
  have e4 := e4.sr
  have hfr := eval_rel e3 e4 f
  have hmem : ∀ x, x = f ∨ x ∈ xs → x ∈ o.op.operands := fun x hx => by
    rw [hop]
    simp only [Op.operands, Call.operands]
    rcases hx with rfl | hx <;> simp [*]
  rw [evalA_cut (hmem f (.inl rfl)), hf] at hfr
  have hargs0 := evalL_rel e3 e4 xs
  rw [evalL_congr fun x hx => evalA_cut (hmem x (.inr hx))] at hargs0
  generalize hv : a.eval f = v at hfr
  cases hfr with
  | func ws hl hr =>
    have hargs := hargs0.append (bs := caps) (us := ws) ⟨hl, hr⟩
    have hcall := hc.out c _ e2 e3 hargs
    have hrun : (execOp a.eval o).run E.P c.w = (callFunc g (xs.map a.eval ++ ws).toArray).run E.P c.w := by
      simp [execOp, hop, resolve, hv, Deferred.ofValue, invoke]
    rw [hrun]
    revert hcall
    cases (callFunc g (xs.map a.eval ++ ws).toArray).run E.P c.w with
    | halt x w => intro h; exact h.elim
    | ok nx w =>
      cases nx <;> intro hcall <;> try exact hcall.elim
      case value v' =>
        obtain ⟨ι', H', x, a1, a2, a3, rfl, rfl⟩ := hcall
        rw [Oper.uponIn_value]
        exact hK ι' w v' a1 a2 a3
      case enter f' args' =>
        rw [Oper.uponIn_enter]
        refine ⟨fun h => (by rw [Fc_depth] at h; simp at h), ?_⟩
        rw [Fc_calls]
        refine Calls.mono hcall ?_
        rintro e w' ⟨ι', H', x, a1, a2, a3, rfl, rfl⟩
        cases e with
        | returned v' => exact hK ι' w' v' a1 a2 a3
        | panicked chain => exact a3.elim
        | outgrown => exact a3.elim
end
end Go.Gp
