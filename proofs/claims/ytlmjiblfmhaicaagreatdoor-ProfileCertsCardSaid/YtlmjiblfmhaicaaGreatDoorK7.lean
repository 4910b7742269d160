/- Part of a proof: GpA17, GpA18, GpA19 -/
import Derived.Test.YtlmjiblfmhaicaaGreatDoorK6

set_option linter.unusedSectionVars false

/- Statements whose order of evaluation is open and which write memory: one walk in the text's order, where what writes is ordered against what reads. -/
namespace Go.Gp
open Go.RowKit
set_option linter.unusedVariables false
set_option linter.unusedSimpArgs false

structure DoesH (E : Env) (ro : Option Nat) (n : Nat) (o : Oper) (f : SFn) (H H' : List AObj) (av : AV) : Prop where
  nd : notDefer o
  out : ∀ (c : Cfg) (a : Act) (K : Act → World → Prop) (Q : Exit → Act → World → Prop), c.H = H → Ok E.G c → SF c n f a →
    (∀ ι' w' v, Ext c ⟨ι', H', w'⟩ → Ok E.G ⟨ι', H', w'⟩ → RelV ⟨ι', H', w'⟩ av v → K (a.put o.dst v) w') → o.uponIn (Fc ro) 0 E.P a K Q ((execOp a.eval o).run E.P c.w)

theorem DoesH.less {E : Env} {ro : Option Nat} {n : Nat} {H H' : List AObj} {o : Oper} {f f' : SFn} {av : AV} (h : DoesH E ro n o f' H H' av) (hl : Less f' f) : DoesH E ro n o f H H' av :=
  ⟨h.nd, fun c a K Q h1 h2 h3 h4 => h.out c a K Q h1 h2 (h3.less hl) h4⟩

def dstOk (n : Nat) (o : Oper) : Prop := ∀ d, o.dst = some d → d < n

/-- What the boxes of these ids hold is as it was. -/
def Like (ids : List Nat) (H H0 : List AObj) : Prop := ∀ i ∈ ids, ∀ ob, H[i]? = some ob → H0[i]? = some ob
theorem Like.refl (ids : List Nat) (H : List AObj) : Like ids H H := fun _ _ _ h => h
theorem Like.trans {ids : List Nat} {H H0 H1 : List AObj} (h : Like ids H H0) (k : Like ids H0 H1) : Like ids H H1 := fun i hi ob ho => k i hi ob (h i hi ob ho)
theorem Like.ext {ids : List Nat} {H X : List AObj} : Like ids H (H ++ X) := fun i _ ob ho => by
  rw [List.getElem?_append_left (List.getElem?_eq_some_iff.1 ho).1]; exact ho

theorem Like.app {ids : List Nat} {H A X : List AObj} : Like ids (H ++ A) (H ++ (A ++ X)) := by rw [← List.append_assoc]; exact Like.ext

/-- A place that is kept for something. -/
def Kept (H : List AObj) (id : Nat) : Prop := ∃ z, H[id]? = some (.tail 0 z)

/-- One operation, by its standing k (5: it lays something at a place that is kept; 6: it lays things behind all others). -/
def actH (E : Env) (ro : Option Nat) (n : Nat) (ids : List Nat) (o : Oper) (f : SFn) (H H' : List AObj) (av : AV) : Nat → Prop
  | 0 => H' = H ∧ ∀ H0, DoesH E ro n o f H0 H0 av
  | 1 => H' = H ∧ DoesH E ro n o f H H av
  | 2 => DoesH E ro n o f H H' av
  | 3 => Like ids H H' ∧ DoesH E ro n o f H H' av
  | 4 => H' = H ∧ ∀ H0, Like ids H H0 → DoesH E ro n o f H0 H0 av
  | 5 => (∃ id ob, H' = H.set id ob ∧ id ∉ ids ∧ Kept H id ∧ ∀ H0, Kept H0 id → DoesH E ro n o f H0 (H0.set id ob) av)
  | 6 => (∃ X, H' = H ++ X ∧ (∀ x ∈ X, ∀ z, x ≠ .tail 0 z) ∧ ∀ H0, H0.length = H.length → DoesH E ro n o f H0 (H0 ++ X) av)
  | _ + 7 => DoesH E ro n o f H H' av

/-- Which standings may change places (3: it leaves some boxes alone; 4: it looks at those alone). -/
def comB (i j : Nat) : Bool := Nat.ble (i * j) 1 || (Nat.beq i 4 && (Nat.beq j 3 || Nat.beq j 4 || Nat.beq j 1 || Nat.beq j 5 || Nat.beq j 6)) || (Nat.beq i 1 && Nat.beq j 4) || (Nat.beq i 5 && Nat.beq j 6) || (Nat.beq i 6 && Nat.beq j 5)

def StepH (E : Env) (ro : Option Nat) (n : Nat) (ids : List Nat) (ops : Array Oper) (k : Nat) (o : Oper) (f : SFn) (H H' : List AObj) (av : AV) : Prop :=
  dstOk n o ∧ ((wantedF ops f o = some true ∧ actH E ro n ids o (restr (o.looksAt ops) f) H H' av k) ∨ (wantedF ops f o = some false ∧ av = undefA ∧ H' = H))

section
variable {E : Env} {ro : Option Nat} {n : Nat} {ids : List Nat} {H H' : List AObj} {ops : Array Oper} {md : Region.Mode}

theorem actH.less {o : Oper} {f f' : SFn} {av : AV} (hl : Less f' f) : ∀ {k : Nat}, actH E ro n ids o f' H H' av k → actH E ro n ids o f H H' av k
  | 0, h => ⟨h.1, fun H0 => (h.2 H0).less hl⟩
  | 1, h => ⟨h.1, h.2.less hl⟩
  | 2, h => DoesH.less h hl
  | 3, h => ⟨h.1, h.2.less hl⟩
  | 4, h => ⟨h.1, fun X hX => (h.2 X hX).less hl⟩
  | 5, h => by
    obtain ⟨id, ob, h1, h2, h3, h4⟩ := h
    exact ⟨id, ob, h1, h2, h3, fun H0 hk => (h4 H0 hk).less hl⟩
  | 6, h => by
    obtain ⟨X, h1, h2, h3⟩ := h
    exact ⟨X, h1, h2, fun H0 hk => (h3 H0 hk).less hl⟩
  | _ + 7, h => DoesH.less h hl

theorem actH.does {o : Oper} {f : SFn} {av : AV} : ∀ {k : Nat}, actH E ro n ids o f H H' av k → DoesH E ro n o f H H' av
  | 0, h => by obtain ⟨e, h⟩ := h; subst e; exact h _
  | 1, h => by obtain ⟨e, h⟩ := h; subst e; exact h
  | 2, h => h
  | 3, h => h.2
  | 4, h => by obtain ⟨e, h⟩ := h; subst e; exact h _ (Like.refl _ _)
  | 5, h => by obtain ⟨id, ob, h1, h2, h3, h4⟩ := h; subst h1; exact h4 _ h3
  | 6, h => by obtain ⟨X, h1, h2, h3⟩ := h; subst h1; exact h3 _ rfl
  | _ + 7, h => h

theorem StepH.less {o : Oper} {f f' : SFn} {av : AV} {k : Nat} (h : StepH E ro n ids ops k o f' H H' av) (hl : Less f' f) : StepH E ro n ids ops k o f H H' av :=
  ⟨h.1, h.2.imp (fun ⟨h1, h2⟩ => ⟨wantedF_less hl h1, h2.less (hl.restr _)⟩) (fun ⟨h1, h2⟩ => ⟨wantedF_less hl h1, h2⟩)⟩

theorem StepH.congr {o : Oper} {f f' : SFn} {av : AV} {k : Nat} (h : StepH E ro n ids ops k o f H H' av) (he : ∀ d ∈ o.looksAt ops, f' d = f d) : StepH E ro n ids ops k o f' H H' av := by
  have h1 := wantedF_congr (f := f) (f' := f') (ops := ops) (o := o) he
  have h2 : restr (o.looksAt ops) f' = restr (o.looksAt ops) f := by
    funext i
    unfold restr
    split
    · rename_i hi; exact he i hi
    · rfl
  unfold StepH at *
  rw [h1, h2]
  exact h

theorem StepH.put_iff {o : Oper} {f : SFn} {av : AV} {k : Nat} {d : Option Nat} {v : AV} (hd : ∀ x, d = some x → x ∉ o.looksAt ops) : StepH E ro n ids ops k o (putF d v f) H H' av ↔ StepH E ro n ids ops k o f H H' av := by
  have he : ∀ x ∈ o.looksAt ops, putF d v f x = f x := fun x hx => putF_ne fun e => hd x e hx
  exact ⟨fun h => h.congr fun x hx => (he x hx).symm, fun h => h.congr he⟩

/-- Two operations whose standings let them change places. -/
theorem swapH {oi oj : Oper} {f g : SFn} {u v : AV} {ki kj : Nat} {H1 H2 : List AObj} (hk : comB ki kj = true) (hi : StepH E ro n ids ops ki oi f H H1 v) (hj : StepH E ro n ids ops kj oj f H1 H2 u) (hi' : ∀ A B, StepH E ro n ids ops ki oi f A B v → StepH E ro n ids ops ki oi g A B v) :
    ∃ H3, StepH E ro n ids ops kj oj f H H3 u ∧ StepH E ro n ids ops ki oi g H3 H2 v := by
  obtain ⟨hdi, hi⟩ := hi
  obtain ⟨hdj, hj⟩ := hj
  rcases hi with ⟨wi, ai⟩ | ⟨wi, rfl, rfl⟩
  · rcases hj with ⟨wj, aj⟩ | ⟨wj, rfl, rfl⟩
    · have hi0 := hi'
      clear hi'
      match ki, kj, hk, ai, aj, hi0 with
      | 0, kj, _, ⟨e, bi⟩, bj, hi' => subst e; exact ⟨H2, ⟨hdj, .inl ⟨wj, bj⟩⟩, hi' _ _ ⟨hdi, .inl ⟨wi, rfl, bi⟩⟩⟩
      | 1, 0, _, ⟨e, bi⟩, ⟨e2, bj⟩, hi' => subst e; subst e2; exact ⟨_, ⟨hdj, .inl ⟨wj, rfl, bj⟩⟩, hi' _ _ ⟨hdi, .inl ⟨wi, rfl, bi⟩⟩⟩
      | 1, 1, _, ⟨e, bi⟩, ⟨e2, bj⟩, hi' => subst e; subst e2; exact ⟨_, ⟨hdj, .inl ⟨wj, rfl, bj⟩⟩, hi' _ _ ⟨hdi, .inl ⟨wi, rfl, bi⟩⟩⟩
      | 1, 4, _, ⟨e, bi⟩, ⟨e2, bj⟩, hi' => subst e; subst e2; exact ⟨_, ⟨hdj, .inl ⟨wj, rfl, bj⟩⟩, hi' _ _ ⟨hdi, .inl ⟨wi, rfl, bi⟩⟩⟩
      | 4, 0, _, ⟨e, bi⟩, ⟨e2, bj⟩, hi' => subst e; subst e2; exact ⟨_, ⟨hdj, .inl ⟨wj, rfl, bj⟩⟩, hi' _ _ ⟨hdi, .inl ⟨wi, rfl, bi⟩⟩⟩
      | 4, 1, _, ⟨e, bi⟩, ⟨e2, bj⟩, hi' => subst e; subst e2; exact ⟨_, ⟨hdj, .inl ⟨wj, rfl, bj⟩⟩, hi' _ _ ⟨hdi, .inl ⟨wi, rfl, bi⟩⟩⟩
      | 4, 4, _, ⟨e, bi⟩, ⟨e2, bj⟩, hi' => subst e; subst e2; exact ⟨_, ⟨hdj, .inl ⟨wj, rfl, bj⟩⟩, hi' _ _ ⟨hdi, .inl ⟨wi, rfl, bi⟩⟩⟩
      | 4, 3, _, ⟨e, bi⟩, ⟨hX, bj⟩, hi' => subst e; exact ⟨_, ⟨hdj, .inl ⟨wj, hX, bj⟩⟩, hi' _ _ ⟨hdi, .inl ⟨wi, rfl, fun H0 h0 => bi H0 (hX.trans h0)⟩⟩⟩
      | 4, 5, _, ⟨e, bi⟩, ⟨id, ob, e2, q1, q2, q3⟩, hi' =>
        subst e; subst e2
        have hX : Like ids H1 (H1.set id ob) := fun i hi o0 h0 => by
          rw [List.getElem?_set_ne (fun e => q1 (by rw [e]; exact hi))]; exact h0
        exact ⟨_, ⟨hdj, .inl ⟨wj, id, ob, rfl, q1, q2, q3⟩⟩, hi' _ _ ⟨hdi, .inl ⟨wi, rfl, fun H0 h0 => bi H0 (hX.trans h0)⟩⟩⟩
      | 4, 6, _, ⟨e, bi⟩, ⟨X, e2, q1, q2⟩, hi' =>
        subst e; subst e2
        exact ⟨_, ⟨hdj, .inl ⟨wj, X, rfl, q1, q2⟩⟩, hi' _ _ ⟨hdi, .inl ⟨wi, rfl, fun H0 h0 => bi H0 (Like.ext.trans h0)⟩⟩⟩
      | 5, 6, _, ⟨id, ob, e, p1, ⟨z, p2⟩, p3⟩, ⟨X, e2, q1, q2⟩, hi' =>
        subst e; subst e2
        have hlt : id < H.length := (List.getElem?_eq_some_iff.1 p2).1
        have hk : Kept (H ++ X) id := ⟨z, by rw [List.getElem?_append_left hlt]; exact p2⟩
        exact ⟨H ++ X, ⟨hdj, .inl ⟨wj, X, rfl, q1, fun H0 h0 => q2 H0 (by rw [h0]; simp)⟩⟩, hi' _ _ ⟨hdi, .inl ⟨wi, id, ob, by rw [List.set_append_left _ _ hlt], p1, hk, p3⟩⟩⟩
      | 6, 5, _, ⟨X, e, p1, p2⟩, ⟨id, ob, e2, q1, ⟨z, q2⟩, q3⟩, hi' =>
        subst e; subst e2
        have hlt : id < H.length := by
          rcases Nat.lt_or_ge id H.length with h | h
          · exact h
          · rw [List.getElem?_append_right h] at q2
            exact absurd rfl (p1 _ (List.mem_of_getElem? q2) z)
        rw [List.getElem?_append_left hlt] at q2
        exact ⟨H.set id ob, ⟨hdj, .inl ⟨wj, id, ob, rfl, q1, ⟨z, q2⟩, q3⟩⟩, hi' _ _ ⟨hdi, .inl ⟨wi, X, by rw [List.set_append_left _ _ hlt], p1, fun H0 h0 => p2 H0 (by rw [h0]; simp)⟩⟩⟩
      | 2, 0, _, bi, ⟨e2, bj⟩, hi' => subst e2; exact ⟨H, ⟨hdj, .inl ⟨wj, rfl, bj⟩⟩, hi' _ _ ⟨hdi, .inl ⟨wi, bi⟩⟩⟩
      | 3, 0, _, bi, ⟨e2, bj⟩, hi' => subst e2; exact ⟨H, ⟨hdj, .inl ⟨wj, rfl, bj⟩⟩, hi' _ _ ⟨hdi, .inl ⟨wi, bi⟩⟩⟩
      | 5, 0, _, bi, ⟨e2, bj⟩, hi' => subst e2; exact ⟨H, ⟨hdj, .inl ⟨wj, rfl, bj⟩⟩, hi' _ _ ⟨hdi, .inl ⟨wi, bi⟩⟩⟩
      | 6, 0, _, bi, ⟨e2, bj⟩, hi' => subst e2; exact ⟨H, ⟨hdj, .inl ⟨wj, rfl, bj⟩⟩, hi' _ _ ⟨hdi, .inl ⟨wi, bi⟩⟩⟩
      | ki + 7, 0, _, bi, ⟨e2, bj⟩, hi' => subst e2; exact ⟨H, ⟨hdj, .inl ⟨wj, rfl, bj⟩⟩, hi' _ _ ⟨hdi, .inl ⟨wi, bi⟩⟩⟩
      | 1, 2, hk, _, _, _ => exact absurd hk (by decide)
      | 1, 3, hk, _, _, _ => exact absurd hk (by decide)
      | 1, kj + 5, hk, _, _, _ => exact absurd hk (by simp [comB])
      | 2, kj + 1, hk, _, _, _ => exact absurd hk (by simp [comB]; omega)
      | 3, kj + 1, hk, _, _, _ => exact absurd hk (by simp [comB]; omega)
      | 4, 2, hk, _, _, _ => exact absurd hk (by decide)
      | 4, kj + 7, hk, _, _, _ => exact absurd hk (by simp [comB]; omega)
      | 5, 1, hk, _, _, _ => exact absurd hk (by decide)
      | 5, 2, hk, _, _, _ => exact absurd hk (by decide)
      | 5, 3, hk, _, _, _ => exact absurd hk (by decide)
      | 5, 4, hk, _, _, _ => exact absurd hk (by decide)
      | 5, 5, hk, _, _, _ => exact absurd hk (by decide)
      | 5, kj + 7, hk, _, _, _ => exact absurd hk (by simp [comB]; omega)
      | 6, 1, hk, _, _, _ => exact absurd hk (by decide)
      | 6, 2, hk, _, _, _ => exact absurd hk (by decide)
      | 6, 3, hk, _, _, _ => exact absurd hk (by decide)
      | 6, 4, hk, _, _, _ => exact absurd hk (by decide)
      | 6, kj + 6, hk, _, _, _ => exact absurd hk (by simp [comB]; omega)
      | ki + 7, kj + 1, hk, _, _, _ =>
        have : 2 * 1 ≤ (ki + 7) * (kj + 1) := Nat.mul_le_mul (by omega) (by omega)
        exact absurd hk (by simp [comB]; omega)
    · exact ⟨H, ⟨hdj, .inr ⟨wj, rfl, rfl⟩⟩, hi' _ _ ⟨hdi, .inl ⟨wi, ai⟩⟩⟩
  · exact ⟨H2, ⟨hdj, hj⟩, hi' _ _ ⟨hdi, .inr ⟨wi, rfl, rfl⟩⟩⟩

def anyH (E : Env) (ro : Option Nat) (n : Nat) (ids : List Nat) (md : Region.Mode) (ops : Array Oper) (cl : List Nat) (Fin : SFn) (HF : List AObj) : Nat → Array Bool → SFn → List AObj → Prop
  | 0, listed, f, H => Region.ready md ops listed = [] ∧ f = Fin ∧ H = HF
  | fuel + 1, listed, f, H => (Region.ready md ops listed = [] → f = Fin ∧ H = HF) ∧
    ∀ i ∈ Region.ready md ops listed, ∀ o, ops[i]? = some o → ∃ av H', StepH E ro n ids ops (cl.getD i 2) o f H H' av ∧ anyH E ro n ids md ops cl Fin HF fuel (listed.setIfInBounds i true) (putF o.dst av f) H'

theorem anyH_first {cl : List Nat} {Fin : SFn} {HF : List AObj} {i : Nat} {oi : Oper} {v : AV} (hi : ops[i]? = some oi) :
    ∀ (fuel : Nat) (listed : Array Bool) (f : SFn) (H H1 : List AObj),
      (∀ j oj, ops[j]? = some oj → j ≠ i → listed.getD j true = false → (∀ e ∈ oj.after, Region.binds md e = true → e.on ≠ i) → oi.apart ops oj = true ∧ comB (cl.getD i 2) (cl.getD j 2) = true) →
      i ∈ Region.ready md ops listed → StepH E ro n ids ops (cl.getD i 2) oi f H H1 v →
      anyH E ro n ids md ops cl Fin HF fuel (listed.setIfInBounds i true) (putF oi.dst v f) H1 → anyH E ro n ids md ops cl Fin HF (fuel + 1) listed f H := by
  intro fuel
  induction fuel with
  | zero =>
    intro listed f H H1 _ hr hy HH
    refine ⟨fun h => (by rw [h] at hr; cases hr), fun j hj o ho => ?_⟩
    by_cases hji : j = i
    · subst hji
      rw [hi] at ho; injection ho with ho; subst ho
      exact ⟨v, H1, hy, HH⟩
    · have := ready_mono hj hji
      rw [HH.1] at this
      cases this
  | succ fuel ih =>
    intro listed f H H1 hfree hr hy HH
    refine ⟨fun h => (by rw [h] at hr; cases hr), fun j hj o ho => ?_⟩
    by_cases hji : j = i
    · subst hji
      rw [hi] at ho; injection ho with ho; subst ho
      exact ⟨v, H1, hy, HH⟩
    · obtain ⟨u, H2, hu, hA⟩ := HH.2 j (ready_mono hj hji) o ho
      obtain ⟨hjun, oj, hoj, hall⟩ := mem_ready.1 hj
      rw [ho] at hoj; injection hoj with hoj; subst hoj
      have hnot : ∀ e ∈ o.after, Region.binds md e = true → e.on ≠ i := fun e he hb heq => by
        have h1 := hall e he hb
        have h0 := (mem_ready.1 hr).1
        rw [heq] at h1
        rcases Nat.lt_or_ge i listed.size with h' | h'
        · simp [h'] at h0 h1; rw [h0] at h1; cases h1
        · simp [Array.getElem?_eq_none h'] at h1
      obtain ⟨hap, hcl⟩ := hfree j o ho hji hjun hnot
      obtain ⟨a1, a2, a3⟩ := Oper.apart_spec hap
      have hfree' : ∀ k ok, ops[k]? = some ok → k ≠ i → (listed.setIfInBounds j true).getD k true = false →
          (∀ e ∈ ok.after, Region.binds md e = true → e.on ≠ i) → oi.apart ops ok = true ∧ comB (cl.getD i 2) (cl.getD k 2) = true := fun k ok hk hki hun hno => by
        refine hfree k ok hk hki ?_ hno
        by_cases hjk : j = k
        · subst hjk; exact hjun
        · rw [getD_set_ne true hjk] at hun; exact hun
      obtain ⟨H3, g1, g2⟩ := swapH (g := putF o.dst u f) hcl hy ((StepH.put_iff a1).1 hu) (fun A B h => (StepH.put_iff a3).2 h)
      refine ⟨u, H3, g1, ih (listed.setIfInBounds j true) _ H3 H2 hfree' (ready_mono hr (Ne.symm hji)) g2 ?_⟩
      rw [Array.setIfInBounds_comm _ _ hji, ← putF_comm a2]
      exact hA

def chainH (E : Env) (ro : Option Nat) (n : Nat) (ids : List Nat) (ops : Array Oper) (cl : List Nat) : List Oper → Nat → SFn → List AObj → SFn → List AObj → Prop
  | [], _, f, H, Fin, HF => f = Fin ∧ H = HF
  | o :: l, k, f, H, Fin, HF => ∃ av H', StepH E ro n ids ops (cl.getD k 2) o f H H' av ∧ chainH E ro n ids ops cl l (k + 1) (putF o.dst av f) H' Fin HF

/-- In the text's order, what may come before what it stands behind may change places with it. -/
def freeCl (md : Region.Mode) (ops : Array Oper) (cl : List Nat) (listed : Array Bool) (i : Nat) : Bool :=
  (List.range ops.size).all fun j => j == i || listed.getD j true || match ops[j]? with
    | some oj => oj.after.any (fun e => Region.binds md e && e.on == i) || comB (cl.getD i 2) (cl.getD j 2)
    | none => true
def lexClFrom (md : Region.Mode) (ops : Array Oper) (cl : List Nat) : Nat → Nat → Array Bool → Bool
  | 0, _, _ => true
  | fuel + 1, k, listed => freeCl md ops cl listed k && lexClFrom md ops cl fuel (k + 1) (listed.setIfInBounds k true)
def lexClB (ops : Array Oper) (cl : List Nat) : Bool := lexClFrom .any ops cl ops.size 0 (Array.replicate ops.size false)

theorem freeCl_spec {cl : List Nat} {i : Nat} {listed : Array Bool} (h : freeCl md ops cl listed i = true) (j : Nat) (oj : Oper)
    (hj : ops[j]? = some oj) (hne : j ≠ i) (hun : listed.getD j true = false) (hno : ∀ e ∈ oj.after, Region.binds md e = true → e.on ≠ i) : comB (cl.getD i 2) (cl.getD j 2) = true := by
  simp only [freeCl, List.all_eq_true, List.mem_range] at h
  have h1 := h j (Array.getElem?_eq_some_iff.1 hj).1
  simp only [hj, Bool.or_eq_true, beq_iff_eq, hne, false_or, hun, Bool.false_eq_true] at h1
  rcases h1 with h1 | h1
  · obtain ⟨e, he, hb⟩ := Array.any_eq_true'.1 h1
    simp only [Bool.and_eq_true, beq_iff_eq] at hb
    exact absurd hb.2 (hno e he hb.1)
  · exact h1

theorem anyH_lex {cl : List Nat} {Fin : SFn} {HF : List AObj} : ∀ (l : List Oper) (k : Nat) (listed : Array Bool) (f : SFn) (H : List AObj), (∀ j, l[j]? = ops[k + j]?) →
    Region.lexFrom md ops l.length k listed = true → lexClFrom md ops cl l.length k listed = true → chainH E ro n ids ops cl l k f H Fin HF → anyH E ro n ids md ops cl Fin HF l.length listed f H
  | [], _, _, _, _, _, hB, _, h => ⟨by simpa [Region.lexFrom] using hB, h⟩
  | o :: l, k, listed, f, H, hl, hB, hC, h => by
    have h0 : ops[k]? = some o := by simpa using (hl 0).symm
    simp only [List.length_cons, Region.lexFrom, Bool.and_eq_true] at hB
    simp only [List.length_cons, lexClFrom, Bool.and_eq_true] at hC
    obtain ⟨⟨hr, hf⟩, hB'⟩ := hB
    obtain ⟨v, H1, hy, hK⟩ := h
    exact anyH_first h0 l.length listed f H H1 (fun j oj hj hne hun hno => ⟨Region.free_spec h0 hf j oj hj hne hun hno, freeCl_spec hC.1 j oj hj hne hun hno⟩) (by simpa using hr) hy
      (anyH_lex l (k + 1) _ _ H1 (fun j => by have := hl (j + 1); simpa [Nat.add_assoc, Nat.add_comm 1 j] using this) hB' hC.2 hK)

theorem chainH_less {cl : List Nat} : ∀ (l : List Oper) {k : Nat} {f f' Fin' : SFn} {H HF : List AObj}, Less f' f → chainH E ro n ids ops cl l k f' H Fin' HF → ∃ Fin, chainH E ro n ids ops cl l k f H Fin HF ∧ Less Fin' Fin
  | [], k, f, f', Fin', H, HF, hl, h => ⟨f, ⟨rfl, h.2⟩, by rw [← show f' = Fin' from h.1]; exact hl⟩
  | o :: l, k, f, f', Fin', H, HF, hl, ⟨av, H', h1, h2⟩ => by
    obtain ⟨Fin, h3, h4⟩ := chainH_less l (hl.put o.dst av) h2
    exact ⟨Fin, ⟨av, H', h1.less hl, h3⟩, h4⟩

theorem wpAny_of_H {cl : List Nat} {Fin : SFn} {HF : List AObj} {Q : Exit → Act → World → Prop} {cd : DC} {c0 : Cfg} (hQ : ∀ (c : Cfg) (a : Act), Ext c0 c → c.H = HF → Ok E.G c → SF c n Fin a → DefOk cd c a → Q .normal a c.w) :
    ∀ (fuel : Nat) (listed : Array Bool) (f : SFn) (H : List AObj) (c : Cfg) (a : Act), anyH E ro n ids md ops cl Fin HF fuel listed f H → Ext c0 c → c.H = H → Ok E.G c → SF c n f a → DefOk cd c a →
      wpAnyIn (Fc ro) 0 E.P md ops Q fuel listed a c.w
  | 0, listed, f, H, c, a, h, e1, e2, e3, e4, e5 => ⟨h.1, hQ c a e1 (e2.trans h.2.2) e3 (by rw [← h.2.1]; exact e4) e5⟩
  | fuel + 1, listed, f, H, c, a, h, e1, e2, e3, e4, e5 => by
    refine ⟨fun h0 => hQ c a e1 (e2.trans (h.1 h0).2) e3 (by rw [← (h.1 h0).1]; exact e4) e5, fun i hi => ?_⟩
    unfold wpOpIn
    cases ho : ops[i]? with
    | none =>
      obtain ⟨_, o, ho', _⟩ := mem_ready.1 hi
      rw [ho] at ho'; cases ho'
    | some o =>
      obtain ⟨av, H', ⟨hdn, hs⟩, hA⟩ := h.2 i hi o ho
      have hput : ∀ (c' : Cfg) (v : Value), SF c' n f a → RelV c' av v → SF c' n (putF o.dst av f) (a.put o.dst v) := fun c' v hs' hv => by
        cases hd : o.dst with
        | none => exact hs'
        | some d => exact hs'.put (hdn d hd) hv
      have hdef : ∀ (v : Value), (a.put o.dst v).defers = a.defers := fun v => by cases o.dst <;> rfl
      simp only
      rcases hs with ⟨hw, hdo⟩ | ⟨hw, rfl, rfl⟩
      · simp only [wantedF_eq e4 hw, if_true]
        refine ⟨fun g _ => Fc_fn ro g, ?_⟩
        rw [Oper.semAt_eq _ _ _ hdo.does.nd]
        refine hdo.does.out c a _ _ e2 e3 (e4.less (restr_less _ _)) fun ι' w' v hx hok hv => ?_
        exact wpAny_of_H hQ fuel _ _ H' ⟨ι', H', w'⟩ _ hA (e1.trans hx) rfl hok (hput _ v (e4.mono hx) hv) (e5.mono hx (hdef v))
      · simp only [wantedF_eq e4 hw, Bool.false_eq_true, if_false]
        refine ⟨fun g _ => Fc_fn ro g, ?_⟩
        exact wpAny_of_H hQ fuel _ _ _ c _ hA e1 e2 e3 (hput _ undef e4 (.tup [] rfl (fun i a v h => by simp at h))) (e5.mono (Ext.refl c) (hdef _))

def putS : Option Nat → AV → Slots → Slots
  | none, _, t => t
  | some d, av, t => (d, av) :: t

theorem look_putS (d : Option Nat) (av : AV) (t : Slots) : look (putS d av t) = putF d av (look t) := by cases d <;> rfl

/-- The walk in the text's order. -/
inductive LexH (E : Env) (ro : Option Nat) (n : Nat) (ids : List Nat) (ops : Array Oper) (cl : List Nat) (Kc : Slots → List AObj → Prop) : List Oper → Nat → Slots → List AObj → Prop
  | nil {k : Nat} {t : Slots} {H : List AObj} (h : Kc t H) : LexH E ro n ids ops cl Kc [] k t H
  | cons {o : Oper} {l : List Oper} {k : Nat} {t : Slots} {H : List AObj} (av : AV) (H' : List AObj) (hs : StepH E ro n ids ops (cl.getD k 2) o (look t) H H' av) (h : LexH E ro n ids ops cl Kc l (k + 1) (putS o.dst av t) H') : LexH E ro n ids ops cl Kc (o :: l) k t H
  | weak {l : List Oper} {k : Nat} {t t' : Slots} {H : List AObj} (hl : Less (look t') (look t)) (h : LexH E ro n ids ops cl Kc l k t' H) : LexH E ro n ids ops cl Kc l k t H

theorem LexH.chain {cl : List Nat} {Kc : Slots → List AObj → Prop} {l : List Oper} {k : Nat} {t : Slots} {H : List AObj} (h : LexH E ro n ids ops cl Kc l k t H) : ∃ Fin HF t', chainH E ro n ids ops cl l k (look t) H Fin HF ∧ Kc t' HF ∧ Less (look t') Fin := by
  induction h with
  | nil h => exact ⟨_, _, _, ⟨rfl, rfl⟩, h, Less.refl _⟩
  | cons av H' hs h ih =>
    obtain ⟨Fin, HF, t', h1, h2, h3⟩ := ih
    rw [look_putS] at h1
    exact ⟨Fin, HF, t', ⟨av, H', hs, h1⟩, h2, h3⟩
  | weak hl h ih =>
    obtain ⟨Fin, HF, t', h1, h2, h3⟩ := ih
    obtain ⟨Fin', h4, h5⟩ := chainH_less _ hl h1
    exact ⟨Fin', HF, t', h4, h2, h3.trans h5⟩

/-- A STATEMENT WHOSE ORDER IS OPEN AND THAT WRITES. -/
theorem WpA.drawI {K : Kont} {t : Slots} {id : Nat} {l : List Oper} (ids cl : List Nat) (hB : Region.lexB .any l.toArray = true) (hC : lexClB l.toArray cl = true) (h : LexH E ro n ids l.toArray cl (fun t' H' => K .normal t' H') l 0 t H) :
    WpA E ro n (.region id l.toArray true) K t H := by
  refine ⟨?_⟩
  intro cd c0 c a e1 e2 e3 e4 e5
  simp only [Region.lexB, Bool.and_eq_true] at hB
  obtain ⟨Fin, HF, t', h1, h2, h3⟩ := h.chain
  have hdr := Ext.drew c
  have := anyH_lex (md := .any) l 0 (Array.replicate l.toArray.size false) (look t) H (by simp) (by simpa using hB.2) (by simpa [lexClB] using hC) h1
  refine wpIn_region_any E.mixed (wpAny_of_H (cd := (cd, E.marks)) (c0 := c0) (fun c' a' q1 q2 q3 q4 q5 => Post.mk .normal q1 q3 (q4.less h3).sr q5 trivial (by rw [q2]; exact h2)) _ _ _ H c.drew a (by simpa using this) (e1.trans hdr) e2 (e3.step hdr e3.hr.drew) (e4.sf.mono hdr) (e5.mono hdr rfl))
end
end Go.Gp

/- Rules inside a statement that writes and whose order is open; appends to rows; slices of slices. -/
namespace Go.Gp
open Go.RowKit
set_option linter.unusedVariables false
set_option linter.unusedSimpArgs false

/-- An operation that yields nothing. -/
structure U1 (E : Env) (n : Nat) (H H1 : List AObj) (o : Oper) (t : Slots) : Prop where
  nd : notDefer o
  out : ∀ (c : Cfg) (a : Act), c.H = H → Ok E.G c → SR c n t a → ∃ ι' w', (execOp a.eval o).run E.P c.w = .ok .skip w' ∧ Ext c ⟨ι', H1, w'⟩ ∧ HR ⟨ι', H1, w'⟩

section
variable {E : Env} {ro : Option Nat} {n : Nat} {ids : List Nat} {K : Kont} {t : Slots} {H H' H1 L : List AObj} {ops : Array Oper} {o : Oper} {l rest : List Oper} {cl : List Nat} {k d : Nat} {av : AV} {Kc : Slots → List AObj → Prop}

theorem P1.does {l' : List Nat} (h : P1 E n H H' o (cutT l' t) av) : DoesH E ro n o (restr l' (look t)) H H' av :=
  ⟨h.nd, fun c a K Q e2 e3 e4 hK => by
    rw [← look_cut_fn] at e4
    obtain ⟨v, ι', w', hr, hx, hh, hv⟩ := h.out c a e2 e3 e4.sr
    rw [hr, Oper.uponIn_value]
    exact hK ι' w' v hx (e3.step hx hh) hv⟩

theorem U1.does {l' : List Nat} (h : U1 E n H H' o (cutT l' t)) : DoesH E ro n o (restr l' (look t)) H H' .unk :=
  ⟨h.nd, fun c a K Q e2 e3 e4 hK => by
    rw [← look_cut_fn] at e4
    obtain ⟨ι', w', hr, hx, hh⟩ := h.out c a e2 e3 e4.sr
    rw [hr, Oper.uponIn_skip]
    exact hK ι' w' _ hx (e3.step hx hh) .unk⟩

theorem dst_some (hd : o.dst = some d) (hdn : Nat.blt d n = true) : dstOk n o := fun x hx => by rw [hd] at hx; injection hx with hx; subst hx; simpa using hdn

theorem LexH.p0 (hw : wantedA ops t o = some true) (hd : o.dst = some d) (hdn : Nat.blt d n = true) (hc : cl.getD k 2 = 0) (h : ∀ H0, P1 E n H0 H0 o (cutT (o.looksAt ops) t) av)
    (hk : LexH E ro n ids ops cl Kc rest (k + 1) ((d, av) :: t) H) : LexH E ro n ids ops cl Kc (o :: rest) k t H :=
  .cons av H ⟨dst_some hd hdn, .inl ⟨hw, by rw [hc]; exact ⟨rfl, fun H0 => (h H0).does⟩⟩⟩ (by rw [hd]; exact hk)

theorem LexH.p1 (hw : wantedA ops t o = some true) (hd : o.dst = some d) (hdn : Nat.blt d n = true) (hc : cl.getD k 2 = 1) (h : P1 E n H H o (cutT (o.looksAt ops) t) av)
    (hk : LexH E ro n ids ops cl Kc rest (k + 1) ((d, av) :: t) H) : LexH E ro n ids ops cl Kc (o :: rest) k t H :=
  .cons av H ⟨dst_some hd hdn, .inl ⟨hw, by rw [hc]; exact ⟨rfl, h.does⟩⟩⟩ (by rw [hd]; exact hk)

theorem LexH.p2 (hw : wantedA ops t o = some true) (hd : o.dst = some d) (hdn : Nat.blt d n = true) (hc : cl.getD k 2 = 2) (h : P1 E n H H' o (cutT (o.looksAt ops) t) av)
    (hk : LexH E ro n ids ops cl Kc rest (k + 1) ((d, av) :: t) H') : LexH E ro n ids ops cl Kc (o :: rest) k t H :=
  .cons av H' ⟨dst_some hd hdn, .inl ⟨hw, by rw [hc]; exact h.does⟩⟩ (by rw [hd]; exact hk)

theorem LexH.p3 (hw : wantedA ops t o = some true) (hd : o.dst = some d) (hdn : Nat.blt d n = true) (hc : cl.getD k 2 = 3) (hX : Like ids H H') (h : P1 E n H H' o (cutT (o.looksAt ops) t) av)
    (hk : LexH E ro n ids ops cl Kc rest (k + 1) ((d, av) :: t) H') : LexH E ro n ids ops cl Kc (o :: rest) k t H :=
  .cons av H' ⟨dst_some hd hdn, .inl ⟨hw, by rw [hc]; exact ⟨hX, h.does⟩⟩⟩ (by rw [hd]; exact hk)

theorem LexH.p4 (hw : wantedA ops t o = some true) (hd : o.dst = some d) (hdn : Nat.blt d n = true) (hc : cl.getD k 2 = 4) (h : ∀ H0, Like ids H H0 → P1 E n H0 H0 o (cutT (o.looksAt ops) t) av)
    (hk : LexH E ro n ids ops cl Kc rest (k + 1) ((d, av) :: t) H) : LexH E ro n ids ops cl Kc (o :: rest) k t H :=
  .cons av H ⟨dst_some hd hdn, .inl ⟨hw, by rw [hc]; exact ⟨rfl, fun H0 h0 => (h H0 h0).does⟩⟩⟩ (by rw [hd]; exact hk)

theorem LexH.u2 (hw : wantedA ops t o = some true) (hd : o.dst = none) (hc : cl.getD k 2 = 2) (h : U1 E n H H' o (cutT (o.looksAt ops) t))
    (hk : LexH E ro n ids ops cl Kc rest (k + 1) t H') : LexH E ro n ids ops cl Kc (o :: rest) k t H :=
  .cons .unk H' ⟨fun x hx => (by rw [hd] at hx; cases hx), .inl ⟨hw, by rw [hc]; exact h.does⟩⟩ (by rw [hd]; exact hk)

theorem LexH.skip (hw : wantedA ops t o = some false) (hd : o.dst = some d) (hdn : Nat.blt d n = true)
    (hk : LexH E ro n ids ops cl Kc rest (k + 1) ((d, undefA) :: t) H) : LexH E ro n ids ops cl Kc (o :: rest) k t H :=
  .cons undefA H ⟨dst_some hd hdn, .inr ⟨hw, rfl, rfl⟩⟩ (by rw [hd]; exact hk)

theorem LexH.split (d : Nat) (b : Bool) (hb : look t d = .bool b) (h1 : b = true → LexH E ro n ids ops cl Kc l k ((d, .bool true) :: t) H) (h2 : b = false → LexH E ro n ids ops cl Kc l k ((d, .bool false) :: t) H) :
    LexH E ro n ids ops cl Kc l k t H := by
  have key : ∀ v, look t d = v → Less (look ((d, v) :: t)) (look t) := fun v hv i => by
    refine .inr ?_
    show (bif Nat.beq d i then v else look t i) = look t i
    cases hq : Nat.beq d i with
    | false => rfl
    | true => have := Nat.eq_of_beq_eq_true hq; subst this; exact hv.symm
  cases b with
  | true => exact .weak (key _ hb) (h1 rfl)
  | false => exact .weak (key _ hb) (h2 rfl)

theorem LexH.forget (h : LexH E ro n ids ops cl Kc l k ((d, .unk) :: t) H) : LexH E ro n ids ops cl Kc l k t H :=
  .weak (fun i => by
    show (bif Nat.beq d i then AV.unk else look t i) = _ ∨ (bif Nat.beq d i then AV.unk else look t i) = look t i
    cases Nat.beq d i
    · exact .inr rfl
    · exact .inl rfl) h

theorem LexH.gsplit (b : Bool) (hd : guardSlot ops o = some d) (hh : headNe t d = true) (hb : look t d = .bool b)
    (h1 : b = true → LexH E ro n ids ops cl Kc (o :: l) k ((d + 1000000, .unk) :: (d, .bool true) :: t) H) (h2 : b = false → LexH E ro n ids ops cl Kc (o :: l) k ((d + 1000000, .unk) :: (d, .bool false) :: t) H) :
    LexH E ro n ids ops cl Kc (o :: l) k t H := .split d b hb (fun h => .forget (h1 h)) (fun h => .forget (h2 h))

/-- An operation that does not look at the heap in sight. -/
theorem LexH.op0 (av : AV) (hw : wantedA ops t o = some true) (hd : o.dst = some d) (hdn : Nat.blt d n = true) (hc : cl.getD k 2 = 0) (hv : valA E t [] o.op = some av) (hb : ∀ n0, baseN E n0 t o.op = n0)
    (hk : LexH E ro n ids ops cl Kc rest (k + 1) ((d, av) :: t) H) : LexH E ro n ids ops cl Kc (o :: rest) k t H :=
  .p0 hw hd hdn hc (fun H0 => by
    have := P1.op (E := E) (n := n) (o := o) (t := cutT (o.looksAt ops) t) (H := H0) (L := []) (av := av) (by rw [valA_congr fun x hx => ⟨evalA_cut hx, evalO_cut hx⟩]; exact hv) (by rw [baseN_congr fun x hx => evalA_cut hx]; exact hb _)
    rwa [List.append_nil] at this) hk

/-- A load from a box, by its id. -/
theorem P1.loadAt {ty m j off : Nat} {i : TI} {p : Operand} {cs : List AV} {av : AV} (hop : o.op = .load ty p)
    (hp : evalA E.G t p = .ptr m j off) (hL : H[m + j]? = some (.cells cs)) (hi : lookT E.T ty = some i) (hle : Nat.ble (off + i.sz) cs.length = true) (hv : varA i (cs.drop off) = some av) : P1 E n H H o t av :=
  .still (fun cc e => by rw [hop] at e; cases e) (fun c a hH ho s => by
    have hpr := eval_rel ho s p
    rw [hp] at hpr
    generalize hv' : a.eval p = v at hpr
    cases hpr with
    | ptr hb =>
      rename_i b
      obtain ⟨o', h1, h2, h3⟩ := hb
      have hcs : c.H[m + j]? = some (.cells cs) := by rw [hH]; exact hL
      obtain ⟨r, h4, h5⟩ := load_cells ho.hr hi hcs h3 (Nat.le_of_ble_eq_true hle) hv
      exact ⟨r, by simp [execOp, hop, hv', h4], h5⟩)

/-- A load from a box of the activation's own that the statement leaves alone till then. -/
theorem LexH.load4 {ty j off : Nat} {i : TI} {p : Operand} {cs : List AV} (av : AV) (hw : wantedA ops t o = some true) (hd : o.dst = some d) (hdn : Nat.blt d n = true) (hc : cl.getD k 2 = 4) (hop : o.op = .load ty p)
    (hp : evalA E.G t p = .ptr H.length j off) (hid : H.length + j ∈ ids) (hL : L[j]? = some (.cells cs)) (hi : lookT E.T ty = some i) (hle : Nat.ble (off + i.sz) cs.length = true) (hv : varA i (cs.drop off) = some av)
    (hk : LexH E ro n ids ops cl Kc rest (k + 1) ((d, av) :: t) (H ++ L)) : LexH E ro n ids ops cl Kc (o :: rest) k t (H ++ L) :=
  .p4 hw hd hdn hc (fun H0 h0 => .loadAt hop (by rw [evalA_cut (by rw [hop]; simp [Op.operands])]; exact hp) (h0 _ hid _ (app_get rfl hL)) hi hle hv) hk

theorem LexH.elem {ty e z : Nat} {j : TI} {x ix : Operand} {tg : Tag} {xs : List (List AV)} {ki : IntKind} {i : Int} (r : List AV) (hw : wantedA ops t o = some true) (hd : o.dst = some d) (hdn : Nat.blt d n = true) (hc : cl.getD k 2 = 0) (hop : o.op = .indexAddr ty x ix)
    (hs : sliceOf E.T ty = some (e, j)) (hx : evalA E.G t x = .sl tg z xs) (hi : evalA E.G t ix = .int ki i) (hz : j.sz = z) (hz0 : Nat.blt 0 z = true) (h0 : 0 ≤ i) (hl : xs[i.toNat]? = some r)
    (hk : LexH E ro n ids ops cl Kc rest (k + 1) ((d, .rp r) :: t) H) : LexH E ro n ids ops cl Kc (o :: rest) k t H :=
  .p0 hw hd hdn hc (fun H0 => .elem hop hs (by rw [(cut_tmp2' hop).1]; exact hx) (by rw [(cut_tmp2' hop).2]; exact hi) hz hz0 h0 hl) hk

theorem LexH.indexS {ty : Nat} {x ix : Operand} {s : List UInt8} {ki : IntKind} {i : Int} (b : UInt8) (hw : wantedA ops t o = some true) (hd : o.dst = some d) (hdn : Nat.blt d n = true) (hc : cl.getD k 2 = 0) (hop : o.op = .index ty x ix)
    (hs : (lookT E.T ty).map TI.d = some .str) (hx : evalA E.G t x = .str s) (hi : evalA E.G t ix = .int ki i) (h0 : 0 ≤ i) (hl : s[i.toNat]? = some b)
    (hk : LexH E ro n ids ops cl Kc rest (k + 1) ((d, .int .u8 b.toNat) :: t) H) : LexH E ro n ids ops cl Kc (o :: rest) k t H :=
  .p0 hw hd hdn hc (fun H0 => .indexS hop hs (by rw [(cut_tmp2 hop).1]; exact hx) (by rw [(cut_tmp2 hop).2]; exact hi) h0 hl) hk

theorem LexH.build {ty : Nat} {ps : List (Nat × Operand)} (cs : List AV) (hw : wantedA ops t o = some true) (hd : o.dst = some d) (hdn : Nat.blt d n = true) (hc : cl.getD k 2 = 0) (hop : o.op = .build ty ⟨ps⟩) (h : buildA E.T ty (evalP E.G t ps) = some cs)
    (hk : LexH E ro n ids ops cl Kc rest (k + 1) ((d, .agg cs) :: t) H) : LexH E ro n ids ops cl Kc (o :: rest) k t H :=
  .p0 hw hd hdn hc (fun H0 => .build hop (by rw [evalP_congr (xs := ps) (t' := cutT (o.looksAt ops) t) (t := t) fun x hx => evalA_cut (by rw [hop]; simp only [Op.operands, List.map_toArray]; exact List.mem_toArray.2 (List.mem_map.2 ⟨x, hx, rfl⟩))]; exact h)) hk

theorem LexH.buildSlice {ty e len z : Nat} {j : TI} {ps : List (Nat × Operand)} (cs : List AV) (hw : wantedA ops t o = some true) (hd : o.dst = some d) (hdn : Nat.blt d n = true) (hc : cl.getD k 2 = 0) (hop : o.op = .buildSlice ty len ⟨ps⟩) (hs : sliceOf E.T ty = some (e, j)) (hz : j.sz = z)
    (h : fillA (fun k => some (k * z, z)) (List.replicate (len * z) .unk) (evalP E.G t ps) = some cs) (hl : Nat.beq cs.length (len * z) = true) (hsm : Nat.ble (len * z) 16777216 = true) (hb : Nat.blt 0 z = true) (hzc : Nat.beq j.zero.cells.size z = true)
    (hk : LexH E ro n ids ops cl Kc rest (k + 1) ((d, .sl .full z (chunkA z len cs)) :: t) H) : LexH E ro n ids ops cl Kc (o :: rest) k t H :=
  .p0 hw hd hdn hc (fun H0 => .buildSlice hop hs hz (by rw [evalP_congr (xs := ps) (t' := cutT (o.looksAt ops) t) (t := t) fun x hx => evalA_cut (by rw [hop]; simp only [Op.operands, List.map_toArray]; exact List.mem_toArray.2 (List.mem_map.2 ⟨x, hx, rfl⟩))]; exact h) hl hsm (by simpa using hb) hzc) hk

theorem LexH.sh {op : BinOp} {ty : Nat} {x y : Operand} {yt : TypeId} (av : AV) (hw : wantedA ops t o = some true) (hd : o.dst = some d) (hdn : Nat.blt d n = true) (hc : cl.getD k 2 = 0) (hop : o.op = .binOp op ty x y yt) (h : shA op (evalA E.G t x) (evalA E.G t y) = some av)
    (hk : LexH E ro n ids ops cl Kc rest (k + 1) ((d, av) :: t) H) : LexH E ro n ids ops cl Kc (o :: rest) k t H :=
  .p0 hw hd hdn hc (fun H0 => .sh hop (by rw [(cut_bin (ops := ops) (t := t) hop).1, (cut_bin (ops := ops) (t := t) hop).2]; exact h)) hk

/-! ### Stores -/
theorem U1.store {ty j off : Nat} {i : TI} {p x : Operand} {cs ys : List AV} (hop : o.op = .store ty p x)
    (hp : evalA E.G t p = .ptr H.length j off) (hL : L[j]? = some (.cells cs)) (hx : cellsA (evalA E.G t x) = some ys) (hi : lookT E.T ty = some i) (hsz : Nat.beq ys.length i.sz = true) (hone : allOne ys = true) (hle : Nat.ble (off + ys.length) cs.length = true) :
    U1 E n (H ++ L) (H ++ L.set j (.cells (putA cs off ys))) o t :=
  ⟨fun cc e => (by rw [hop] at e; cases e), fun c a hH ho s => by
    have hr := cellsA_rel (eval_rel ho s x) hx
    have hpr := eval_rel ho s p
    rw [hp] at hpr
    generalize hv : a.eval p = v at hpr
    cases hpr with
    | ptr hb =>
      rename_i b
      obtain ⟨o', h1, h2, h3⟩ := hb
      have hcs : c.H[H.length + j]? = some (.cells cs) := by rw [hH]; exact app_get rfl hL
      obtain ⟨w', hrun, hx, hh⟩ := store_sound ho.hr hcs h3 hi hr (allOne_mem hone) (Nat.eq_of_beq_eq_true hsz) (Nat.le_of_ble_eq_true hle)
      unfold Cfg.upd at hx hh
      rw [hH, set_app] at hx hh
      refine ⟨_, w', ?_, hx, hh⟩
      simp [execOp, hop, hv, hrun]⟩

theorem LexH.store {ty j off : Nat} {i : TI} {p x : Operand} {cs ys : List AV} (hw : wantedA ops t o = some true) (hd : o.dst = none) (hc : cl.getD k 2 = 2) (hop : o.op = .store ty p x)
    (hp : evalA E.G t p = .ptr H.length j off) (hL : L[j]? = some (.cells cs)) (hx : cellsA (evalA E.G t x) = some ys) (hi : lookT E.T ty = some i) (hsz : Nat.beq ys.length i.sz = true) (hone : allOne ys = true) (hle : Nat.ble (off + ys.length) cs.length = true)
    (hk : LexH E ro n ids ops cl Kc rest (k + 1) t (H ++ L.set j (.cells (putA cs off ys)))) : LexH E ro n ids ops cl Kc (o :: rest) k t (H ++ L) :=
  .u2 hw hd hc (.store hop (by rw [evalA_cut (by rw [hop]; simp [Op.operands])]; exact hp) hL (by rw [evalA_cut (by rw [hop]; simp [Op.operands])]; exact hx) hi hsz hone hle) hk

/-! ### Appends to rows -/
theorem P1.appR {ty tx e z j : Nat} {i ix : TI} {p q : Operand} {xs ys : List (List AV)}
    (hop : o.op = .call { callee := .builtin .append, args := ⟨[p, q]⟩, argTypes := ⟨[ty, tx]⟩ }) (hs : sliceOf E.T ty = some (e, i)) (hz : i.sz = z) (hx : lookT E.T tx = some ix) (hd : ∀ k, ix.d ≠ .int k)
    (hb : Nat.blt 0 i.bytes = true) (hz0 : Nat.blt 0 z = true) (hzs : Nat.beq i.zero.cells.size z = true) (hp : evalA E.G t p = .sl (.row H.length j) z xs) (hL : L[j]? = some (.tail xs.length z)) (hq : srcA z (evalA E.G t q) = some ys) (hone : ∀ y ∈ ys, ∀ a ∈ y, a.one = true)
    (hfit : (xs.length + ys.length) * i.bytes ≤ 140737488355328) :
    P1 E n (H ++ L) (H ++ L.set j (.tail (xs ++ ys).length z)) o t (.sl (.row H.length j) z (xs ++ ys)) :=
  ⟨fun cc e => (by rw [hop] at e; cases e), fun c a hH ho sr => by
    subst hz
    have hpr := eval_rel ho sr p
    rw [hp] at hpr
    have hqr := eval_rel ho sr q
    obtain ⟨s1, s2⟩ := srcA_ok hq hqr
    have hcH : c.H[H.length + j]? = some (.tail xs.length i.sz) := by rw [hH]; exact app_get rfl hL
    obtain ⟨v', ι', w', h1, h2, h3, h4⟩ := app_row (ty0 := o.type) ho.hr hs hx hd (by simpa using hb) (by simpa using hz0) hone (Nat.eq_of_beq_eq_true hzs) hcH hpr s1 s2 hfit
    rw [hH, set_app] at h2 h3 h4
    rw [List.length_append]
    refine ⟨v', ι', w', ?_, h2, h3, h4⟩
    simp [execOp, hop, resolve, invoke, builtin, h1]⟩

theorem WpOps.appR {ty tx e z j : Nat} {i ix : TI} {p q : Operand} {xs ys : List (List AV)} (hw : wantedA ops t o = some true) (hd : o.dst = some d) (hdn : Nat.blt d n = true)
    (hop : o.op = .call { callee := .builtin .append, args := ⟨[p, q]⟩, argTypes := ⟨[ty, tx]⟩ }) (hs : sliceOf E.T ty = some (e, i)) (hz : i.sz = z) (hx : lookT E.T tx = some ix) (hdd : ∀ k, ix.d ≠ .int k)
    (hb : Nat.blt 0 i.bytes = true) (hz0 : Nat.blt 0 z = true) (hzs : Nat.beq i.zero.cells.size z = true) (hp : evalA E.G t p = .sl (.row H.length j) z xs) (hL : L[j]? = some (.tail xs.length z)) (hq : srcA z (evalA E.G t q) = some ys) (hone : ∀ y ∈ ys, ∀ a ∈ y, a.one = true)
    (hfit : (xs.length + ys.length) * i.bytes ≤ 140737488355328)
    (hk : WpOps E ro n ops rest K ((d, .sl (.row H.length j) z (xs ++ ys)) :: t) (H ++ L.set j (.tail (xs ++ ys).length z))) : WpOps E ro n ops (o :: rest) K t (H ++ L) :=
  .p1 hw hd hdn (.appR hop hs hz hx hdd hb hz0 hzs hp hL hq hone hfit) hk

theorem LexH.appR {ty tx e z j : Nat} {i ix : TI} {p q : Operand} {xs ys : List (List AV)} (hw : wantedA ops t o = some true) (hd : o.dst = some d) (hdn : Nat.blt d n = true) (hc : cl.getD k 2 = 2)
    (hop : o.op = .call { callee := .builtin .append, args := ⟨[p, q]⟩, argTypes := ⟨[ty, tx]⟩ }) (hs : sliceOf E.T ty = some (e, i)) (hz : i.sz = z) (hx : lookT E.T tx = some ix) (hdd : ∀ k, ix.d ≠ .int k)
    (hb : Nat.blt 0 i.bytes = true) (hz0 : Nat.blt 0 z = true) (hzs : Nat.beq i.zero.cells.size z = true) (hp : evalA E.G t p = .sl (.row H.length j) z xs) (hL : L[j]? = some (.tail xs.length z)) (hq : srcA z (evalA E.G t q) = some ys) (hone : ∀ y ∈ ys, ∀ a ∈ y, a.one = true)
    (hfit : (xs.length + ys.length) * i.bytes ≤ 140737488355328)
    (hk : LexH E ro n ids ops cl Kc rest (k + 1) ((d, .sl (.row H.length j) z (xs ++ ys)) :: t) (H ++ L.set j (.tail (xs ++ ys).length z))) : LexH E ro n ids ops cl Kc (o :: rest) k t (H ++ L) :=
  .p2 hw hd hdn hc (.appR hop hs hz hx hdd hb hz0 hzs (by rw [evalA_cut (by rw [hop]; simp [Op.operands, Call.operands])]; exact hp) hL (by rw [evalA_cut (by rw [hop]; simp [Op.operands, Call.operands])]; exact hq) hone hfit) hk

theorem LexH.appF {ty tx e z : Nat} {j ix : TI} {p q : Operand} {xs ys : List (List AV)} (hw : wantedA ops t o = some true) (hd : o.dst = some d) (hdn : Nat.blt d n = true) (hc : cl.getD k 2 = 0)
    (hop : o.op = .call { callee := .builtin .append, args := ⟨[p, q]⟩, argTypes := ⟨[ty, tx]⟩ }) (hs : sliceOf E.T ty = some (e, j)) (hz : j.sz = z) (hx : lookT E.T tx = some ix) (hdd : ∀ k, ix.d ≠ .int k)
    (hb : Nat.blt 0 j.bytes = true) (hp : evalA E.G t p = .sl .full z xs) (hq : srcA z (evalA E.G t q) = some ys) (hfit : (xs.length + ys.length) * j.bytes ≤ 140737488355328)
    (hk : LexH E ro n ids ops cl Kc rest (k + 1) ((d, .sl .no z (xs ++ ys)) :: t) H) : LexH E ro n ids ops cl Kc (o :: rest) k t H :=
  .p0 hw hd hdn hc (fun H0 => .appF hop hs hz hx hdd hb (by rw [evalA_cut (by rw [hop]; simp [Op.operands, Call.operands])]; exact hp) (by rw [evalA_cut (by rw [hop]; simp [Op.operands, Call.operands])]; exact hq) hfit) hk
end
end Go.Gp

/- Rows that are taken over; calls inside a statement that writes; slices of slices; quotients. -/
namespace Go.Gp
open Go.RowKit
set_option linter.unusedVariables false
set_option linter.unusedSimpArgs false

/-- A new tail that has no block yet. -/
def Cfg.adopt (c : Cfg) (z : Nat) (n : Nat := 0) : Cfg := { c with H := c.H ++ [.tail n z] }

theorem adopt_get {c : Cfg} {z id n0 : Nat} {x : AObj} : (c.adopt z n0).H[id]? = some x ↔ c.H[id]? = some x ∨ (id = c.H.length ∧ x = .tail n0 z) := by
  show (c.H ++ [AObj.tail n0 z])[id]? = some x ↔ _
  rcases Nat.lt_trichotomy id c.H.length with h | h | h
  · rw [List.getElem?_append_left h]
    constructor
    · exact .inl
    · rintro (h1 | ⟨h1, _⟩)
      · exact h1
      · omega
  · subst h
    rw [List.getElem?_append_right (Nat.le_refl _), Nat.sub_self]
    simp [eq_comm]
  · rw [List.getElem?_append_right (by omega), List.getElem?_eq_none (by simp; omega)]
    constructor
    · intro h'; cases h'
    · rintro (h1 | ⟨h1, _⟩)
      · rw [List.getElem?_eq_none (by omega)] at h1; cases h1
      · omega

theorem Ext.adopt (c : Cfg) (z : Nat) (h : HR c) (n0 : Nat := 0) : Ext c (c.adopt z n0) where
  fz := fun p v hp hf => by
    refine ⟨hf.1, ?_⟩
    rintro ⟨id, x, h1, h2, h3⟩
    rcases adopt_get.1 h1 with h1 | ⟨h1, _⟩
    · exact hf.2 ⟨id, x, h1, h2, h3⟩
    · have := h.dom _ _ (show c.ι id = some _ from h2); omega
  bx := fun id b ⟨x, h1, h2, h3⟩ => ⟨x, adopt_get.2 (.inl h1), h2, h3⟩
  tl := fun id n z hn => .inr ⟨n, adopt_get.2 (.inl hn), Nat.le_refl _, fun _ => ⟨rfl, fun b arr e hi ha => ⟨arr, ha, rfl⟩⟩⟩
  dd := fun id ⟨x, h1, h2⟩ => ⟨x, adopt_get.2 (.inl h1), h2⟩
  sz := fun _ _ _ _ h => h
  size := Nat.le_refl _
  os := rfl
  tape := rfl
  output := rfl
  hlen := by show _ ≤ (c.H ++ [AObj.tail n0 z]).length; simp
  outer := fun b hb _ => rfl
  nw := fun id b x hx hl hi hb => by
    rcases adopt_get.1 hx with hx | ⟨hx, _⟩
    · exact ⟨_, x, hx, hl, hi⟩
    · have := h.dom _ _ (show c.ι id = some _ from hi); omega

theorem HR.adopt {c : Cfg} (h : HR c) (z : Nat) (n0 : Nat := 0) : HR (c.adopt z n0) where
  dom := fun id b hi => by
    show id < (c.H ++ [AObj.tail n0 z]).length
    have := h.dom id b hi
    simp; omega
  ex := fun id x hx hb hl => by
    rcases adopt_get.1 hx with hx | ⟨_, rfl⟩
    · exact h.ex id x hx hb hl
    · cases hb
  obj := fun id b x hx hi hl => by
    rcases adopt_get.1 hx with hx | ⟨hx, _⟩
    · exact (h.obj id b x hx hi hl).mono (Ext.adopt c z h n0).toExt0 rfl
    · have := h.dom _ _ (show c.ι id = some _ from hi); omega
  inj := fun i j b x y hx hy lx ly hi hj => by
    rcases adopt_get.1 hx with hx | ⟨hx, _⟩
    · rcases adopt_get.1 hy with hy | ⟨hy, _⟩
      · exact h.inj i j b x y hx hy lx ly hi hj
      · have := h.dom _ _ (show c.ι j = some _ from hj); omega
    · have := h.dom _ _ (show c.ι i = some _ from hi); omega
  bound := fun id b hi => h.bound id b hi

theorem RelV.adopt {c : Cfg} {z z0 m q : Nat} {v : Value} (h : HR c) (hm : m + q = c.H.length) (hr : RelV c (.sl .full z0 []) v) : RelV (c.adopt z) (.sl (.row m q) z []) v := by
  cases hr with
  | sl vs hl hc hz ht hf hr =>
    rename_i a len cap
    have hl0 : len = 0 := hl.symm
    subst hl0
    have hc0 : cap = 0 := ht
    subst hc0
    refine .sl (fun _ _ => undef) rfl (Nat.le_refl _) (by simp) (.inr ⟨0, adopt_get.2 (.inr ⟨hm, rfl⟩), Nat.le_refl _, fun _ => .inl ⟨?_, rfl⟩⟩) (fun i j hi => by omega) (fun i j l e h => by simp at h)
    cases hi : (c.adopt z).ι (m + q) with
    | none => rfl
    | some b =>
      have := h.dom _ _ (show c.ι (m + q) = some b from hi)
      omega

/-- A box's cells told anew. -/
theorem recell {c : Cfg} {id : Nat} {cs cs' : List AV} (h : HR c) (hH : c.H[id]? = some (.cells cs)) (hl : cs'.length = cs.length) (hr : ∀ (i : Nat) a a0 v, cs'[i]? = some a → cs[i]? = some a0 → RelV c a0 v → RelV c a v) :
    Ext c { c with H := c.H.set id (.cells cs') } ∧ HR { c with H := c.H.set id (.cells cs') } := by
  have hid := get_lt hH
  obtain ⟨b, hi⟩ := h.ex id _ hH rfl rfl
  have hx : Ext c (c.upd id (.cells cs') c.w) := Ext.upd (o := .cells cs) h hH hi rfl rfl rfl rfl (fun _ => trivial) (Turned.refl _ _)
  refine ⟨hx, HR.upd h hH hi rfl hx (Turned.refl _ _) ?_⟩
  obtain ⟨arr, e, h1, h2, h3⟩ := h.obj id b _ hH hi rfl
  refine ⟨arr, e, h1, by rw [hl]; exact h2, fun i a ha => ?_⟩
  have hlt : i < cs.length := by rw [← hl]; exact (List.getElem?_eq_some_iff.1 ha).1
  obtain ⟨v, hv, hrv⟩ := h3 i _ (List.getElem?_eq_getElem hlt)
  exact ⟨v, hv, (hr i a _ v ha (List.getElem?_eq_getElem hlt) hrv).mono hx.toExt0⟩

section
variable {E : Env} {ro : Option Nat} {n : Nat} {ids : List Nat} {K : Kont} {t : Slots} {H H' H1 L : List AObj} {ops : Array Oper} {o : Oper} {l rest : List Oper} {cl : List Nat} {k d : Nat} {av : AV} {Kc : Slots → List AObj → Prop}

/-- A slice without places becomes a row of the activation's own. -/
theorem WpA.adoptS {code : Code} {z0 : Nat} (d z : Nat) (hd : look t d = .sl .full z0 []) (h : WpA E ro n code K ((d, .sl (.row H.length L.length) z []) :: t) (H ++ (L ++ [.tail 0 z]))) : WpA E ro n code K t (H ++ L) := by
  refine ⟨?_⟩
  intro cd c0 c a e1 e2 e3 e4 e5
  have hx := Ext.adopt c z e3.hr
  have hh := e3.hr.adopt z
  refine h.out cd c0 (c.adopt z) a (e1.trans hx) (by show c.H ++ _ = _; rw [e2]; simp) (e3.step hx hh) ⟨e4.size, fun i => ?_⟩ (e5.mono hx rfl)
  show RelV _ (bif Nat.beq d i then _ else look t i) _
  cases hb : Nat.beq d i with
  | true =>
    have := Nat.eq_of_beq_eq_true hb
    subst this
    have hr := e4.rel d
    rw [hd] at hr
    exact RelV.adopt e3.hr (by rw [e2]; simp) hr
  | false => exact (e4.rel i).mono hx.toExt0

/-- .. one that lies in a box of its own. -/
theorem WpA.adoptC {code : Code} {z0 j q : Nat} {cs : List AV} (z : Nat) (hL : L[j]? = some (.cells cs)) (hc : cs[q]? = some (.sl .full z0 [])) (h : WpA E ro n code K t (H ++ (L.set j (.cells (cs.set q (.sl (.row H.length L.length) z []))) ++ [.tail 0 z]))) : WpA E ro n code K t (H ++ L) := by
  refine ⟨?_⟩
  intro cd c0 c a e1 e2 e3 e4 e5
  have hx := Ext.adopt c z e3.hr
  have hh := e3.hr.adopt z
  have hcs : c.H[H.length + j]? = some (.cells cs) := by rw [e2]; exact app_get rfl hL
  have hcs' : (c.adopt z).H[H.length + j]? = some (.cells cs) := adopt_get.2 (.inl hcs)
  have hN : H.length + L.length = c.H.length := by rw [e2]; simp
  obtain ⟨r1, r2⟩ := recell (cs' := cs.set q (.sl (.row H.length L.length) z [])) hh hcs' (by simp) (fun i a0 a1 v h1 h2 hr => by
    rw [List.getElem?_set] at h1
    by_cases hq : q = i
    · subst hq
      rw [if_pos rfl, if_pos (List.getElem?_eq_some_iff.1 hc).1] at h1
      injection h1 with h1
      subst h1
      rw [hc] at h2
      injection h2 with h2
      subst h2
      -- the relation of an empty slice asks nothing of the heap
      cases hr with
      | sl vs hl hcap hz ht hf hr =>
        rename_i a len cap
        have hl0 : len = 0 := hl.symm
        subst hl0
        have hc0 : cap = 0 := ht
        subst hc0
        have hr0 : RelV c (.sl .full z0 []) (.slice a 0 0) := .sl (fun _ _ => undef) rfl (Nat.le_refl _) (by simp) rfl (fun i j hi => by omega) (fun i j l e h => by simp at h)
        exact RelV.adopt e3.hr hN hr0
    · rw [if_neg hq, h2] at h1
      injection h1 with h1
      subst h1
      exact hr)
  have hxx := hx.trans r1
  refine h.out cd c0 { c.adopt z with H := (c.adopt z).H.set (H.length + j) (.cells (cs.set q (.sl (.row H.length L.length) z []))) } a (e1.trans hxx) ?_ (e3.step hxx r2) (e4.mono hxx) (e5.mono hxx rfl)
  show (c.H ++ [AObj.tail 0 z]).set (H.length + j) _ = _
  have hj := get_lt hL
  rw [e2, List.append_assoc, set_app, List.set_append, if_pos hj]

/-- A call inside a statement that writes. -/
theorem doesH_call {g : Nat} {caps : List AV} {f : Operand} {xs : List Operand} {ats : Array TypeId} {r : AV}
    (hop : o.op = .call { callee := .value f, args := ⟨xs⟩, argTypes := ats }) (hf : evalA E.G t f = .func g caps)
    (hc : CallsA E g (evalL E.G t xs ++ caps) H (fun x H1 => H1 = H' ∧ x = .ret r)) : DoesH E ro n o (restr (o.looksAt ops) (look t)) H H' r := by
  have hnd : notDefer o := fun cc e => by rw [hop] at e; cases e
  refine ⟨hnd, fun c a K Q e2 e3 e4 hK => ?_⟩
  rw [← look_cut_fn] at e4
  have e4 := e4.sr
  have hfr := eval_rel e3 e4 f
  have hmem : ∀ x, x = f ∨ x ∈ xs → x ∈ o.op.operands := fun x hx => by
    rw [hop]
    simp only [Op.operands, Call.operands]
    rcases hx with rfl | hx <;> simp [*]
  rw [evalA_cut (hmem f (.inl rfl)), hf] at hfr
  have hargs0 := evalL_rel e3 e4 xs
  rw [evalL_congr fun x hx => evalA_cut (hmem x (.inr hx))] at hargs0
  generalize hv : a.eval f = v at hfr
  cases hfr with
  | func ws hl hr =>
    have hargs := hargs0.append (bs := caps) (us := ws) ⟨hl, hr⟩
    have hcall := hc.out c _ e2 e3 hargs
    have hrun : (execOp a.eval o).run E.P c.w = (callFunc g (xs.map a.eval ++ ws).toArray).run E.P c.w := by
      simp [execOp, hop, resolve, hv, Deferred.ofValue, invoke]
    rw [hrun]
    revert hcall
    cases (callFunc g (xs.map a.eval ++ ws).toArray).run E.P c.w with
    | halt x w => intro h; exact h.elim
    | ok nx w =>
      cases nx <;> intro hcall <;> try exact hcall.elim
      case value v' =>
        obtain ⟨ι', H', x, a1, a2, a3, rfl, rfl⟩ := hcall
        rw [Oper.uponIn_value]
        exact hK ι' w v' a1 a2 a3
      case enter f' args' =>
        rw [Oper.uponIn_enter]
        refine ⟨fun h => (by rw [Fc_depth] at h; simp at h), ?_⟩
        rw [Fc_calls]
        refine Calls.mono hcall ?_
        rintro e w' ⟨ι', H', x, a1, a2, a3, rfl, rfl⟩
        cases e with
        | returned v' => exact hK ι' w' v' a1 a2 a3
        | panicked chain => exact a3.elim
        | outgrown => exact a3.elim

theorem LexH.call {g : Nat} {caps : List AV} {f : Operand} {xs : List Operand} {ats : Array TypeId} {r : AV}
    (hw : wantedA ops t o = some true) (hd : o.dst = some d) (hdn : Nat.blt d n = true) (hcl : cl.getD k 2 = 1) (hop : o.op = .call { callee := .value f, args := ⟨xs⟩, argTypes := ats }) (hf : evalA E.G t f = .func g caps)
    (hc : CallsA E g (evalL E.G t xs ++ caps) H (Is H r))
    (hk : LexH E ro n ids ops cl Kc rest (k + 1) ((d, r) :: t) H) : LexH E ro n ids ops cl Kc (o :: rest) k t H :=
  .cons r H ⟨dst_some hd hdn, .inl ⟨hw, by rw [hcl]; exact ⟨rfl, doesH_call hop hf hc⟩⟩⟩ (by rw [hd]; exact hk)

/-- A call that the heap does not matter to. -/
theorem LexH.call0 {g : Nat} {caps : List AV} {f : Operand} {xs : List Operand} {ats : Array TypeId} {r : AV}
    (hw : wantedA ops t o = some true) (hd : o.dst = some d) (hdn : Nat.blt d n = true) (hcl : cl.getD k 2 = 0) (hop : o.op = .call { callee := .value f, args := ⟨xs⟩, argTypes := ats }) (hf : evalA E.G t f = .func g caps)
    (hc : ∀ H, CallsA E g (evalL E.G t xs ++ caps) H (Is H r))
    (hk : LexH E ro n ids ops cl Kc rest (k + 1) ((d, r) :: t) H) : LexH E ro n ids ops cl Kc (o :: rest) k t H :=
  .cons r H ⟨dst_some hd hdn, .inl ⟨hw, by rw [hcl]; exact ⟨rfl, fun H0 => doesH_call hop hf (hc H0)⟩⟩⟩ (by rw [hd]; exact hk)

/-! ### Quotients -/
def quoA (op : BinOp) (x y : AV) : Option AV :=
  match x, y with
  | .int k a, .int k' (.ofNat (m + 1)) => if k = k' then match op with
    | .quo => some (.int k (k.wrap (a.tdiv (m + 1))))
    | .rem => some (.int k (a.tmod (m + 1)))
    | _ => none
    else none
  | _, _ => none

theorem P1.quo {op : BinOp} {ty : Nat} {x y : Operand} {yt : TypeId} {av : AV} (hop : o.op = .binOp op ty x y yt) (h : quoA op (evalA E.G t x) (evalA E.G t y) = some av) : P1 E n H H o t av :=
  .still (fun cc e => by rw [hop] at e; cases e) (fun c a hH ho sr => by
    have hxr := eval_rel ho sr x
    have hyr := eval_rel ho sr y
    unfold quoA at h
    split at h <;> try (simp at h; done)
    rename_i k p k' m hx hy
    rw [hx] at hxr
    rw [hy] at hyr
    generalize hv : a.eval x = v at hxr
    generalize hv2 : a.eval y = v2 at hyr
    cases hxr; cases hyr
    split at h <;> try (simp at h; done)
    rename_i hk
    subst hk
    have hne : (Int.ofNat (m + 1)) ≠ 0 := by intro e; cases e
    split at h
    · injection h with h; subst h
      refine ⟨_, ?_, .int⟩
      simp only [execOp, hop, hv, hv2, Sem.run_bind]
      rw [eqGuard_plain (by simp) (by simp)]
      simp [binOp, Op.intDiv, hne]
      intro h
      omega
    · injection h with h; subst h
      refine ⟨_, ?_, .int⟩
      simp only [execOp, hop, hv, hv2, Sem.run_bind]
      rw [eqGuard_plain (by simp) (by simp)]
      simp [binOp, Op.intDiv, hne]
      intro h
      omega
    · simp at h)

theorem WpOps.quo {op : BinOp} {ty : Nat} {x y : Operand} {yt : TypeId} (av : AV) (hw : wantedA ops t o = some true) (hd : o.dst = some d) (hdn : Nat.blt d n = true) (hop : o.op = .binOp op ty x y yt) (h : quoA op (evalA E.G t x) (evalA E.G t y) = some av)
    (hk : WpOps E ro n ops rest K ((d, av) :: t) H) : WpOps E ro n ops (o :: rest) K t H := .p1 hw hd hdn (.quo hop h) hk

/-! ### Slices of slices -/
def BndOk (G : GEnv) (t : Slots) (dflt m : Nat) : Option Operand → Prop
  | none => m = dflt
  | some x => ∃ k i, evalA G t x = .int k i ∧ 0 ≤ i ∧ i.toNat = m

theorem P1.slice {ty e z : Nat} {j : TI} {x : Operand} {lo hi : Option Operand} {tg : Tag} {xs : List (List AV)} (p q : Nat) (hop : o.op = .slice ty x lo hi none) (hs : sliceOf E.T ty = some (e, j)) (hx : evalA E.G t x = .sl tg z xs) (hz : j.sz = z)
    (hlo : BndOk E.G t 0 p lo) (hhi : BndOk E.G t xs.length q hi) (hpq : p ≤ q) (hq : q ≤ xs.length) : P1 E n H H o t (.sl .no z ((xs.take q).drop p)) :=
  .still (fun cc e => by rw [hop] at e; cases e) (fun c a hH ho sr => by
    obtain ⟨hu, hj⟩ := sliceOf_spec hs
    have hxr := eval_rel ho sr x
    rw [hx] at hxr
    generalize hv : a.eval x = v at hxr
    cases hxr with
    | sl vs hlen hc hzz ht hf hr =>
      rename_i ad len cap
      have hrhi : (match hi.map a.eval with | some v => Instr.sliceBound v cap .sliceAcap | none => pure len : Sem Nat).run E.P c.w = .ok q c.w := by
        cases hi with
        | none =>
          have : q = xs.length := hhi
          simp [this, hlen]
        | some y =>
          obtain ⟨k, i, h1, h2, h3⟩ := hhi
          have hyr := eval_rel ho sr y
          rw [h1] at hyr
          generalize hv2 : a.eval y = v2 at hyr
          cases hyr
          have : 0 ≤ i ∧ i ≤ (cap : Int) := ⟨h2, by omega⟩
          simp [hv2, Instr.sliceBound, asIntOf, this, h3]
      have hrlo : (match lo.map a.eval with | some v => Instr.sliceBound v q .sliceB | none => pure 0 : Sem Nat).run E.P c.w = .ok p c.w := by
        cases lo with
        | none =>
          have : p = 0 := hlo
          simp [this]
        | some y =>
          obtain ⟨k, i, h1, h2, h3⟩ := hlo
          have hyr := eval_rel ho sr y
          rw [h1] at hyr
          generalize hv2 : a.eval y = v2 at hyr
          cases hyr
          have : 0 ≤ i ∧ i ≤ (q : Int) := ⟨h2, by omega⟩
          simp [hv2, Instr.sliceBound, asIntOf, this, h3]
      have hb : (Instr.sliceBounds true len cap (lo.map a.eval) (hi.map a.eval) none).run E.P c.w = .ok (p, q, cap) c.w := by
        unfold Instr.sliceBounds
        cases hi with
        | none =>
          simp only [Option.map_none] at hrhi ⊢
          cases lo with
          | none =>
            simp only [Option.map_none] at hrlo ⊢
            simp at hrhi hrlo ⊢
            exact ⟨hrlo, hrhi⟩
          | some y =>
            simp only [Option.map_some] at hrlo ⊢
            simp at hrhi
            subst hrhi
            simp [hrlo]
        | some y' =>
          simp only [Option.map_some] at hrhi ⊢
          cases lo with
          | none =>
            simp only [Option.map_none] at hrlo ⊢
            simp at hrlo
            subst hrlo
            simp [hrhi]
          | some y =>
            simp only [Option.map_some] at hrlo ⊢
            simp [hrhi, hrlo]
      refine ⟨.slice (if cap = p then ad else ad.map (·.add (p * z))) (q - p) (cap - p), ?_, ?_⟩
      · simp only [execOp, hop, Option.map_none]
        simp only [Instr.sliceAt, Sem.run_bind, run_underlying hu, Result.andThen_ok, hv, Instr.slice, hb, run_sizeOf hj, hz, Sem.run_pure]
      · refine .sl (fun i w => vs (p + i) w) (by simp; omega) (by omega) (fun y hy => hzz y (List.mem_of_mem_take (List.mem_of_mem_drop hy))) trivial (fun i w hi' hw => ?_) (fun i w r y h1 h2 => ?_)
        · obtain ⟨ad', g1, g2, g3⟩ := hf (p + i) w (by omega) hw
          subst g1
          rw [if_neg (by omega)]
          refine ⟨_, rfl, addr_add_spot _ g2 _, ?_⟩
          rw [addr_add_add _ g2]
          have : p * z + (i * z + w) = (p + i) * z + w := by rw [Nat.add_mul]; omega
          rw [this]
          exact g3
        · rw [List.getElem?_drop, List.getElem?_take] at h1
          split at h1
          · exact hr (p + i) w r y h1 h2
          · cases h1)

theorem WpOps.slice {ty e z : Nat} {j : TI} {x : Operand} {lo hi : Option Operand} {tg : Tag} {xs : List (List AV)} (p q : Nat) (hw : wantedA ops t o = some true) (hd : o.dst = some d) (hdn : Nat.blt d n = true) (hop : o.op = .slice ty x lo hi none) (hs : sliceOf E.T ty = some (e, j)) (hx : evalA E.G t x = .sl tg z xs) (hz : j.sz = z)
    (hlo : BndOk E.G t 0 p lo) (hhi : BndOk E.G t xs.length q hi) (hpq : p ≤ q) (hq : q ≤ xs.length)
    (hk : WpOps E ro n ops rest K ((d, .sl .no z ((xs.take q).drop p)) :: t) H) : WpOps E ro n ops (o :: rest) K t H := .p1 hw hd hdn (.slice p q hop hs hx hz hlo hhi hpq hq) hk
end
end Go.Gp
