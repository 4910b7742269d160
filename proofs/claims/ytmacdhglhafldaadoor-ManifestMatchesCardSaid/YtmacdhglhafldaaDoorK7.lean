/- Part of a proof: GpA17, GpA18 -/
import Derived.Test.YtmacdhglhafldaaDoorK6

/- Statements whose order of evaluation is open and which write memory: one walk in the text's order, where what writes is ordered against what reads. -/
namespace Go.Gp
open Go.RowKit
set_option linter.unusedVariables false
set_option linter.unusedSimpArgs false

/-- How an operation stands to the heap in sight, by its kind: 0: it does not look; 1: it looks; 2: it writes. -/
def clsB (o : Oper) : Nat :=
  match o.op with
  | .load _ _ => 1
  | .store _ _ _ => 2
  | .alloc _ => 2
  | .box _ _ => 2
  | .call c => match c.callee with
    | .builtin .len => 0
    | .builtin .append => 2
    | .builtin _ => 2
    | _ => 1
  | .mapUpdate _ _ _ _ => 2
  | .makeMap _ _ => 2
  | .lookup _ _ _ _ => 1
  | _ => 0

structure DoesH (E : Env) (ro : Option Nat) (n : Nat) (o : Oper) (f : SFn) (H H' : List AObj) (av : AV) : Prop where
  nd : notDefer o
  out : ∀ (c : Cfg) (a : Act) (K : Act → World → Prop) (Q : Exit → Act → World → Prop), c.H = H → Ok E.G c → SF c n f a →
    (∀ ι' w' v, Ext c ⟨ι', H', w'⟩ → Ok E.G ⟨ι', H', w'⟩ → RelV ⟨ι', H', w'⟩ av v → K (a.put o.dst v) w') → o.uponIn (Fc ro) 0 E.P a K Q ((execOp a.eval o).run E.P c.w)

theorem DoesH.less {E : Env} {ro : Option Nat} {n : Nat} {H H' : List AObj} {o : Oper} {f f' : SFn} {av : AV} (h : DoesH E ro n o f' H H' av) (hl : Less f' f) : DoesH E ro n o f H H' av :=
  ⟨h.nd, fun c a K Q h1 h2 h3 h4 => h.out c a K Q h1 h2 (h3.less hl) h4⟩

def dstOk (n : Nat) (o : Oper) : Prop := ∀ d, o.dst = some d → d < n

/-- What the boxes of these ids hold is as it was. -/
def Like (ids : List Nat) (H H0 : List AObj) : Prop := ∀ i ∈ ids, ∀ ob, H[i]? = some ob → H0[i]? = some ob
theorem Like.refl (ids : List Nat) (H : List AObj) : Like ids H H := fun _ _ _ h => h
theorem Like.trans {ids : List Nat} {H H0 H1 : List AObj} (h : Like ids H H0) (k : Like ids H0 H1) : Like ids H H1 := fun i hi ob ho => k i hi ob (h i hi ob ho)
theorem Like.ext {ids : List Nat} {H X : List AObj} : Like ids H (H ++ X) := fun i _ ob ho => by
  rw [List.getElem?_append_left (List.getElem?_eq_some_iff.1 ho).1]; exact ho

theorem Like.app {ids : List Nat} {H A X : List AObj} : Like ids (H ++ A) (H ++ (A ++ X)) := by rw [← List.append_assoc]; exact Like.ext

/-- A place that is kept for something. -/
def Kept (H : List AObj) (id : Nat) : Prop := ∃ z, H[id]? = some (.tail 0 z)

/-- One operation, by its standing k (5: it lays something at a place that is kept; 6: it lays things behind all others). -/
def actH (E : Env) (ro : Option Nat) (n : Nat) (ids : List Nat) (o : Oper) (f : SFn) (H H' : List AObj) (av : AV) : Nat → Prop
  | 0 => H' = H ∧ ∀ H0, DoesH E ro n o f H0 H0 av
  | 1 => H' = H ∧ DoesH E ro n o f H H av
  | 2 => DoesH E ro n o f H H' av
  | 3 => Like ids H H' ∧ DoesH E ro n o f H H' av
  | 4 => H' = H ∧ ∀ H0, Like ids H H0 → DoesH E ro n o f H0 H0 av
  | 5 => (∃ id ob, H' = H.set id ob ∧ id ∉ ids ∧ Kept H id ∧ ∀ H0, Kept H0 id → DoesH E ro n o f H0 (H0.set id ob) av)
  | 6 => (∃ X, H' = H ++ X ∧ (∀ x ∈ X, ∀ z, x ≠ .tail 0 z) ∧ ∀ H0, H0.length = H.length → DoesH E ro n o f H0 (H0 ++ X) av)
  | _ + 7 => DoesH E ro n o f H H' av

/-- Which standings may change places (3: it leaves some boxes alone; 4: it looks at those alone). -/
def comB (i j : Nat) : Bool := Nat.ble (i * j) 1 || (Nat.beq i 4 && (Nat.beq j 3 || Nat.beq j 4 || Nat.beq j 1 || Nat.beq j 5 || Nat.beq j 6)) || (Nat.beq i 1 && Nat.beq j 4) || (Nat.beq i 5 && Nat.beq j 6) || (Nat.beq i 6 && Nat.beq j 5)

def StepH (E : Env) (ro : Option Nat) (n : Nat) (ids : List Nat) (ops : Array Oper) (k : Nat) (o : Oper) (f : SFn) (H H' : List AObj) (av : AV) : Prop :=
  dstOk n o ∧ ((wantedF ops f o = some true ∧ actH E ro n ids o (restr (o.looksAt ops) f) H H' av k) ∨ (wantedF ops f o = some false ∧ av = undefA ∧ H' = H))

section
variable {E : Env} {ro : Option Nat} {n : Nat} {ids : List Nat} {H H' : List AObj} {ops : Array Oper} {md : Region.Mode}

theorem actH.less {o : Oper} {f f' : SFn} {av : AV} (hl : Less f' f) : ∀ {k : Nat}, actH E ro n ids o f' H H' av k → actH E ro n ids o f H H' av k
  | 0, h => ⟨h.1, fun H0 => (h.2 H0).less hl⟩
  | 1, h => ⟨h.1, h.2.less hl⟩
  | 2, h => DoesH.less h hl
  | 3, h => ⟨h.1, h.2.less hl⟩
  | 4, h => ⟨h.1, fun X hX => (h.2 X hX).less hl⟩
  | 5, h => by
    obtain ⟨id, ob, h1, h2, h3, h4⟩ := h
    exact ⟨id, ob, h1, h2, h3, fun H0 hk => (h4 H0 hk).less hl⟩
  | 6, h => by
    obtain ⟨X, h1, h2, h3⟩ := h
    exact ⟨X, h1, h2, fun H0 hk => (h3 H0 hk).less hl⟩
  | _ + 7, h => DoesH.less h hl

theorem actH.does {o : Oper} {f : SFn} {av : AV} : ∀ {k : Nat}, actH E ro n ids o f H H' av k → DoesH E ro n o f H H' av
  | 0, h => by obtain ⟨e, h⟩ := h; subst e; exact h _
  | 1, h => by obtain ⟨e, h⟩ := h; subst e; exact h
  | 2, h => h
  | 3, h => h.2
  | 4, h => by obtain ⟨e, h⟩ := h; subst e; exact h _ (Like.refl _ _)
  | 5, h => by obtain ⟨id, ob, h1, h2, h3, h4⟩ := h; subst h1; exact h4 _ h3
  | 6, h => by obtain ⟨X, h1, h2, h3⟩ := h; subst h1; exact h3 _ rfl
  | _ + 7, h => h

theorem StepH.less {o : Oper} {f f' : SFn} {av : AV} {k : Nat} (h : StepH E ro n ids ops k o f' H H' av) (hl : Less f' f) : StepH E ro n ids ops k o f H H' av :=
  ⟨h.1, h.2.imp (fun ⟨h1, h2⟩ => ⟨wantedF_less hl h1, h2.less (hl.restr _)⟩) (fun ⟨h1, h2⟩ => ⟨wantedF_less hl h1, h2⟩)⟩

theorem StepH.congr {o : Oper} {f f' : SFn} {av : AV} {k : Nat} (h : StepH E ro n ids ops k o f H H' av) (he : ∀ d ∈ o.looksAt ops, f' d = f d) : StepH E ro n ids ops k o f' H H' av := by
  have h1 := wantedF_congr (f := f) (f' := f') (ops := ops) (o := o) he
  have h2 : restr (o.looksAt ops) f' = restr (o.looksAt ops) f := by
    funext i
    unfold restr
    split
    · rename_i hi; exact he i hi
    · rfl
  unfold StepH at *
  rw [h1, h2]
  exact h

theorem StepH.put_iff {o : Oper} {f : SFn} {av : AV} {k : Nat} {d : Option Nat} {v : AV} (hd : ∀ x, d = some x → x ∉ o.looksAt ops) : StepH E ro n ids ops k o (putF d v f) H H' av ↔ StepH E ro n ids ops k o f H H' av := by
  have he : ∀ x ∈ o.looksAt ops, putF d v f x = f x := fun x hx => putF_ne fun e => hd x e hx
  exact ⟨fun h => h.congr fun x hx => (he x hx).symm, fun h => h.congr he⟩

/-- Two operations whose standings let them change places. -/
theorem swapH {oi oj : Oper} {f g : SFn} {u v : AV} {ki kj : Nat} {H1 H2 : List AObj} (hk : comB ki kj = true) (hi : StepH E ro n ids ops ki oi f H H1 v) (hj : StepH E ro n ids ops kj oj f H1 H2 u) (hi' : ∀ A B, StepH E ro n ids ops ki oi f A B v → StepH E ro n ids ops ki oi g A B v) :
    ∃ H3, StepH E ro n ids ops kj oj f H H3 u ∧ StepH E ro n ids ops ki oi g H3 H2 v := by
  obtain ⟨hdi, hi⟩ := hi
  obtain ⟨hdj, hj⟩ := hj
  rcases hi with ⟨wi, ai⟩ | ⟨wi, rfl, rfl⟩
  · rcases hj with ⟨wj, aj⟩ | ⟨wj, rfl, rfl⟩
    · have hi0 := hi'
      clear hi'
      match ki, kj, hk, ai, aj, hi0 with
      | 0, kj, _, ⟨e, bi⟩, bj, hi' => subst e; exact ⟨H2, ⟨hdj, .inl ⟨wj, bj⟩⟩, hi' _ _ ⟨hdi, .inl ⟨wi, rfl, bi⟩⟩⟩
      | 1, 0, _, ⟨e, bi⟩, ⟨e2, bj⟩, hi' => subst e; subst e2; exact ⟨_, ⟨hdj, .inl ⟨wj, rfl, bj⟩⟩, hi' _ _ ⟨hdi, .inl ⟨wi, rfl, bi⟩⟩⟩
      | 1, 1, _, ⟨e, bi⟩, ⟨e2, bj⟩, hi' => subst e; subst e2; exact ⟨_, ⟨hdj, .inl ⟨wj, rfl, bj⟩⟩, hi' _ _ ⟨hdi, .inl ⟨wi, rfl, bi⟩⟩⟩
      | 1, 4, _, ⟨e, bi⟩, ⟨e2, bj⟩, hi' => subst e; subst e2; exact ⟨_, ⟨hdj, .inl ⟨wj, rfl, bj⟩⟩, hi' _ _ ⟨hdi, .inl ⟨wi, rfl, bi⟩⟩⟩
      | 4, 0, _, ⟨e, bi⟩, ⟨e2, bj⟩, hi' => subst e; subst e2; exact ⟨_, ⟨hdj, .inl ⟨wj, rfl, bj⟩⟩, hi' _ _ ⟨hdi, .inl ⟨wi, rfl, bi⟩⟩⟩
      | 4, 1, _, ⟨e, bi⟩, ⟨e2, bj⟩, hi' => subst e; subst e2; exact ⟨_, ⟨hdj, .inl ⟨wj, rfl, bj⟩⟩, hi' _ _ ⟨hdi, .inl ⟨wi, rfl, bi⟩⟩⟩
      | 4, 4, _, ⟨e, bi⟩, ⟨e2, bj⟩, hi' => subst e; subst e2; exact ⟨_, ⟨hdj, .inl ⟨wj, rfl, bj⟩⟩, hi' _ _ ⟨hdi, .inl ⟨wi, rfl, bi⟩⟩⟩
      | 4, 3, _, ⟨e, bi⟩, ⟨hX, bj⟩, hi' => subst e; exact ⟨_, ⟨hdj, .inl ⟨wj, hX, bj⟩⟩, hi' _ _ ⟨hdi, .inl ⟨wi, rfl, fun H0 h0 => bi H0 (hX.trans h0)⟩⟩⟩
      | 4, 5, _, ⟨e, bi⟩, ⟨id, ob, e2, q1, q2, q3⟩, hi' =>
        subst e; subst e2
        have hX : Like ids H1 (H1.set id ob) := fun i hi o0 h0 => by
          rw [List.getElem?_set_ne (fun e => q1 (by rw [e]; exact hi))]; exact h0
        exact ⟨_, ⟨hdj, .inl ⟨wj, id, ob, rfl, q1, q2, q3⟩⟩, hi' _ _ ⟨hdi, .inl ⟨wi, rfl, fun H0 h0 => bi H0 (hX.trans h0)⟩⟩⟩
      | 4, 6, _, ⟨e, bi⟩, ⟨X, e2, q1, q2⟩, hi' =>
        subst e; subst e2
        exact ⟨_, ⟨hdj, .inl ⟨wj, X, rfl, q1, q2⟩⟩, hi' _ _ ⟨hdi, .inl ⟨wi, rfl, fun H0 h0 => bi H0 (Like.ext.trans h0)⟩⟩⟩
      | 5, 6, _, ⟨id, ob, e, p1, ⟨z, p2⟩, p3⟩, ⟨X, e2, q1, q2⟩, hi' =>
        subst e; subst e2
        have hlt : id < H.length := (List.getElem?_eq_some_iff.1 p2).1
        have hk : Kept (H ++ X) id := ⟨z, by rw [List.getElem?_append_left hlt]; exact p2⟩
        exact ⟨H ++ X, ⟨hdj, .inl ⟨wj, X, rfl, q1, fun H0 h0 => q2 H0 (by rw [h0]; simp)⟩⟩, hi' _ _ ⟨hdi, .inl ⟨wi, id, ob, by rw [List.set_append_left _ _ hlt], p1, hk, p3⟩⟩⟩
      | 6, 5, _, ⟨X, e, p1, p2⟩, ⟨id, ob, e2, q1, ⟨z, q2⟩, q3⟩, hi' =>
        subst e; subst e2
        have hlt : id < H.length := by
          rcases Nat.lt_or_ge id H.length with h | h
          · exact h
          · rw [List.getElem?_append_right h] at q2
            exact absurd rfl (p1 _ (List.mem_of_getElem? q2) z)
        rw [List.getElem?_append_left hlt] at q2
        exact ⟨H.set id ob, ⟨hdj, .inl ⟨wj, id, ob, rfl, q1, ⟨z, q2⟩, q3⟩⟩, hi' _ _ ⟨hdi, .inl ⟨wi, X, by rw [List.set_append_left _ _ hlt], p1, fun H0 h0 => p2 H0 (by rw [h0]; simp)⟩⟩⟩
      | 2, 0, _, bi, ⟨e2, bj⟩, hi' => subst e2; exact ⟨H, ⟨hdj, .inl ⟨wj, rfl, bj⟩⟩, hi' _ _ ⟨hdi, .inl ⟨wi, bi⟩⟩⟩
      | 3, 0, _, bi, ⟨e2, bj⟩, hi' => subst e2; exact ⟨H, ⟨hdj, .inl ⟨wj, rfl, bj⟩⟩, hi' _ _ ⟨hdi, .inl ⟨wi, bi⟩⟩⟩
      | 5, 0, _, bi, ⟨e2, bj⟩, hi' => subst e2; exact ⟨H, ⟨hdj, .inl ⟨wj, rfl, bj⟩⟩, hi' _ _ ⟨hdi, .inl ⟨wi, bi⟩⟩⟩
      | 6, 0, _, bi, ⟨e2, bj⟩, hi' => subst e2; exact ⟨H, ⟨hdj, .inl ⟨wj, rfl, bj⟩⟩, hi' _ _ ⟨hdi, .inl ⟨wi, bi⟩⟩⟩
      | ki + 7, 0, _, bi, ⟨e2, bj⟩, hi' => subst e2; exact ⟨H, ⟨hdj, .inl ⟨wj, rfl, bj⟩⟩, hi' _ _ ⟨hdi, .inl ⟨wi, bi⟩⟩⟩
      | 1, 2, hk, _, _, _ => exact absurd hk (by decide)
      | 1, 3, hk, _, _, _ => exact absurd hk (by decide)
      | 1, kj + 5, hk, _, _, _ => exact absurd hk (by simp [comB])
      | 2, kj + 1, hk, _, _, _ => exact absurd hk (by simp [comB]; omega)
      | 3, kj + 1, hk, _, _, _ => exact absurd hk (by simp [comB]; omega)
      | 4, 2, hk, _, _, _ => exact absurd hk (by decide)
      | 4, kj + 7, hk, _, _, _ => exact absurd hk (by simp [comB]; omega)
      | 5, 1, hk, _, _, _ => exact absurd hk (by decide)
      | 5, 2, hk, _, _, _ => exact absurd hk (by decide)
      | 5, 3, hk, _, _, _ => exact absurd hk (by decide)
      | 5, 4, hk, _, _, _ => exact absurd hk (by decide)
      | 5, 5, hk, _, _, _ => exact absurd hk (by decide)
      | 5, kj + 7, hk, _, _, _ => exact absurd hk (by simp [comB]; omega)
      | 6, 1, hk, _, _, _ => exact absurd hk (by decide)
      | 6, 2, hk, _, _, _ => exact absurd hk (by decide)
      | 6, 3, hk, _, _, _ => exact absurd hk (by decide)
      | 6, 4, hk, _, _, _ => exact absurd hk (by decide)
      | 6, kj + 6, hk, _, _, _ => exact absurd hk (by simp [comB]; omega)
      | ki + 7, kj + 1, hk, _, _, _ =>
        have : 2 * 1 ≤ (ki + 7) * (kj + 1) := Nat.mul_le_mul (by omega) (by omega)
        exact absurd hk (by simp [comB]; omega)
    · exact ⟨H, ⟨hdj, .inr ⟨wj, rfl, rfl⟩⟩, hi' _ _ ⟨hdi, .inl ⟨wi, ai⟩⟩⟩
  · exact ⟨H2, ⟨hdj, hj⟩, hi' _ _ ⟨hdi, .inr ⟨wi, rfl, rfl⟩⟩⟩

def anyH (E : Env) (ro : Option Nat) (n : Nat) (ids : List Nat) (md : Region.Mode) (ops : Array Oper) (cl : List Nat) (Fin : SFn) (HF : List AObj) : Nat → Array Bool → SFn → List AObj → Prop
  | 0, listed, f, H => Region.ready md ops listed = [] ∧ f = Fin ∧ H = HF
  | fuel + 1, listed, f, H => (Region.ready md ops listed = [] → f = Fin ∧ H = HF) ∧
    ∀ i ∈ Region.ready md ops listed, ∀ o, ops[i]? = some o → ∃ av H', StepH E ro n ids ops (cl.getD i 2) o f H H' av ∧ anyH E ro n ids md ops cl Fin HF fuel (listed.setIfInBounds i true) (putF o.dst av f) H'

theorem anyH_first {cl : List Nat} {Fin : SFn} {HF : List AObj} {i : Nat} {oi : Oper} {v : AV} (hi : ops[i]? = some oi) :
    ∀ (fuel : Nat) (listed : Array Bool) (f : SFn) (H H1 : List AObj),
      (∀ j oj, ops[j]? = some oj → j ≠ i → listed.getD j true = false → (∀ e ∈ oj.after, Region.binds md e = true → e.on ≠ i) → oi.apart ops oj = true ∧ comB (cl.getD i 2) (cl.getD j 2) = true) →
      i ∈ Region.ready md ops listed → StepH E ro n ids ops (cl.getD i 2) oi f H H1 v →
      anyH E ro n ids md ops cl Fin HF fuel (listed.setIfInBounds i true) (putF oi.dst v f) H1 → anyH E ro n ids md ops cl Fin HF (fuel + 1) listed f H := by
  intro fuel
  induction fuel with
  | zero =>
    intro listed f H H1 _ hr hy HH
    refine ⟨fun h => (by rw [h] at hr; cases hr), fun j hj o ho => ?_⟩
    by_cases hji : j = i
    · subst hji
      rw [hi] at ho; injection ho with ho; subst ho
      exact ⟨v, H1, hy, HH⟩
    · have := ready_mono hj hji
      rw [HH.1] at this
      cases this
  | succ fuel ih =>
    intro listed f H H1 hfree hr hy HH
    refine ⟨fun h => (by rw [h] at hr; cases hr), fun j hj o ho => ?_⟩
    by_cases hji : j = i
    · subst hji
      rw [hi] at ho; injection ho with ho; subst ho
      exact ⟨v, H1, hy, HH⟩
    · obtain ⟨u, H2, hu, hA⟩ := HH.2 j (ready_mono hj hji) o ho
      obtain ⟨hjun, oj, hoj, hall⟩ := mem_ready.1 hj
      rw [ho] at hoj; injection hoj with hoj; subst hoj
      have hnot : ∀ e ∈ o.after, Region.binds md e = true → e.on ≠ i := fun e he hb heq => by
        have h1 := hall e he hb
        have h0 := (mem_ready.1 hr).1
        rw [heq] at h1
        rcases Nat.lt_or_ge i listed.size with h' | h'
        · simp [h'] at h0 h1; rw [h0] at h1; cases h1
        · simp [Array.getElem?_eq_none h'] at h1
      obtain ⟨hap, hcl⟩ := hfree j o ho hji hjun hnot
      obtain ⟨a1, a2, a3⟩ := Oper.apart_spec hap
      have hfree' : ∀ k ok, ops[k]? = some ok → k ≠ i → (listed.setIfInBounds j true).getD k true = false →
          (∀ e ∈ ok.after, Region.binds md e = true → e.on ≠ i) → oi.apart ops ok = true ∧ comB (cl.getD i 2) (cl.getD k 2) = true := fun k ok hk hki hun hno => by
        refine hfree k ok hk hki ?_ hno
        by_cases hjk : j = k
        · subst hjk; exact hjun
        · rw [getD_set_ne true hjk] at hun; exact hun
      obtain ⟨H3, g1, g2⟩ := swapH (g := putF o.dst u f) hcl hy ((StepH.put_iff a1).1 hu) (fun A B h => (StepH.put_iff a3).2 h)
      refine ⟨u, H3, g1, ih (listed.setIfInBounds j true) _ H3 H2 hfree' (ready_mono hr (Ne.symm hji)) g2 ?_⟩
      rw [Array.setIfInBounds_comm _ _ hji, ← putF_comm a2]
      exact hA

def chainH (E : Env) (ro : Option Nat) (n : Nat) (ids : List Nat) (ops : Array Oper) (cl : List Nat) : List Oper → Nat → SFn → List AObj → SFn → List AObj → Prop
  | [], _, f, H, Fin, HF => f = Fin ∧ H = HF
  | o :: l, k, f, H, Fin, HF => ∃ av H', StepH E ro n ids ops (cl.getD k 2) o f H H' av ∧ chainH E ro n ids ops cl l (k + 1) (putF o.dst av f) H' Fin HF

/-- In the text's order, what may come before what it stands behind may change places with it. -/
def freeCl (md : Region.Mode) (ops : Array Oper) (cl : List Nat) (listed : Array Bool) (i : Nat) : Bool :=
  (List.range ops.size).all fun j => j == i || listed.getD j true || match ops[j]? with
    | some oj => oj.after.any (fun e => Region.binds md e && e.on == i) || comB (cl.getD i 2) (cl.getD j 2)
    | none => true
def lexClFrom (md : Region.Mode) (ops : Array Oper) (cl : List Nat) : Nat → Nat → Array Bool → Bool
  | 0, _, _ => true
  | fuel + 1, k, listed => freeCl md ops cl listed k && lexClFrom md ops cl fuel (k + 1) (listed.setIfInBounds k true)
def lexClB (ops : Array Oper) (cl : List Nat) : Bool := lexClFrom .any ops cl ops.size 0 (Array.replicate ops.size false)

theorem freeCl_spec {cl : List Nat} {i : Nat} {listed : Array Bool} (h : freeCl md ops cl listed i = true) (j : Nat) (oj : Oper)
    (hj : ops[j]? = some oj) (hne : j ≠ i) (hun : listed.getD j true = false) (hno : ∀ e ∈ oj.after, Region.binds md e = true → e.on ≠ i) : comB (cl.getD i 2) (cl.getD j 2) = true := by
  simp only [freeCl, List.all_eq_true, List.mem_range] at h
  have h1 := h j (Array.getElem?_eq_some_iff.1 hj).1
  simp only [hj, Bool.or_eq_true, beq_iff_eq, hne, false_or, hun, Bool.false_eq_true] at h1
  rcases h1 with h1 | h1
  · obtain ⟨e, he, hb⟩ := Array.any_eq_true'.1 h1
    simp only [Bool.and_eq_true, beq_iff_eq] at hb
    exact absurd hb.2 (hno e he hb.1)
  · exact h1

theorem anyH_lex {cl : List Nat} {Fin : SFn} {HF : List AObj} : ∀ (l : List Oper) (k : Nat) (listed : Array Bool) (f : SFn) (H : List AObj), (∀ j, l[j]? = ops[k + j]?) →
    Region.lexFrom md ops l.length k listed = true → lexClFrom md ops cl l.length k listed = true → chainH E ro n ids ops cl l k f H Fin HF → anyH E ro n ids md ops cl Fin HF l.length listed f H
  | [], _, _, _, _, _, hB, _, h => ⟨by simpa [Region.lexFrom] using hB, h⟩
  | o :: l, k, listed, f, H, hl, hB, hC, h => by
    have h0 : ops[k]? = some o := by simpa using (hl 0).symm
    simp only [List.length_cons, Region.lexFrom, Bool.and_eq_true] at hB
    simp only [List.length_cons, lexClFrom, Bool.and_eq_true] at hC
    obtain ⟨⟨hr, hf⟩, hB'⟩ := hB
    obtain ⟨v, H1, hy, hK⟩ := h
    exact anyH_first h0 l.length listed f H H1 (fun j oj hj hne hun hno => ⟨Region.free_spec h0 hf j oj hj hne hun hno, freeCl_spec hC.1 j oj hj hne hun hno⟩) (by simpa using hr) hy
      (anyH_lex l (k + 1) _ _ H1 (fun j => by have := hl (j + 1); simpa [Nat.add_assoc, Nat.add_comm 1 j] using this) hB' hC.2 hK)

theorem chainH_less {cl : List Nat} : ∀ (l : List Oper) {k : Nat} {f f' Fin' : SFn} {H HF : List AObj}, Less f' f → chainH E ro n ids ops cl l k f' H Fin' HF → ∃ Fin, chainH E ro n ids ops cl l k f H Fin HF ∧ Less Fin' Fin
  | [], k, f, f', Fin', H, HF, hl, h => ⟨f, ⟨rfl, h.2⟩, by rw [← show f' = Fin' from h.1]; exact hl⟩
  | o :: l, k, f, f', Fin', H, HF, hl, ⟨av, H', h1, h2⟩ => by
    obtain ⟨Fin, h3, h4⟩ := chainH_less l (hl.put o.dst av) h2
    exact ⟨Fin, ⟨av, H', h1.less hl, h3⟩, h4⟩

theorem wpAny_of_H {cl : List Nat} {Fin : SFn} {HF : List AObj} {Q : Exit → Act → World → Prop} {cd : DC} {c0 : Cfg} (hQ : ∀ (c : Cfg) (a : Act), Ext c0 c → c.H = HF → Ok E.G c → SF c n Fin a → DefOk cd c a → Q .normal a c.w) :
    ∀ (fuel : Nat) (listed : Array Bool) (f : SFn) (H : List AObj) (c : Cfg) (a : Act), anyH E ro n ids md ops cl Fin HF fuel listed f H → Ext c0 c → c.H = H → Ok E.G c → SF c n f a → DefOk cd c a →
      wpAnyIn (Fc ro) 0 E.P md ops Q fuel listed a c.w
  | 0, listed, f, H, c, a, h, e1, e2, e3, e4, e5 => ⟨h.1, hQ c a e1 (e2.trans h.2.2) e3 (by rw [← h.2.1]; exact e4) e5⟩
  | fuel + 1, listed, f, H, c, a, h, e1, e2, e3, e4, e5 => by
    refine ⟨fun h0 => hQ c a e1 (e2.trans (h.1 h0).2) e3 (by rw [← (h.1 h0).1]; exact e4) e5, fun i hi => ?_⟩
    unfold wpOpIn
    cases ho : ops[i]? with
    | none =>
      obtain ⟨_, o, ho', _⟩ := mem_ready.1 hi
      rw [ho] at ho'; cases ho'
    | some o =>
      obtain ⟨av, H', ⟨hdn, hs⟩, hA⟩ := h.2 i hi o ho
      have hput : ∀ (c' : Cfg) (v : Value), SF c' n f a → RelV c' av v → SF c' n (putF o.dst av f) (a.put o.dst v) := fun c' v hs' hv => by
        cases hd : o.dst with
        | none => exact hs'
        | some d => exact hs'.put (hdn d hd) hv
      have hdef : ∀ (v : Value), (a.put o.dst v).defers = a.defers := fun v => by cases o.dst <;> rfl
      simp only
      rcases hs with ⟨hw, hdo⟩ | ⟨hw, rfl, rfl⟩
      · simp only [wantedF_eq e4 hw, if_true]
        refine ⟨fun g _ => Fc_fn ro g, ?_⟩
        rw [Oper.semAt_eq _ _ _ hdo.does.nd]
        refine hdo.does.out c a _ _ e2 e3 (e4.less (restr_less _ _)) fun ι' w' v hx hok hv => ?_
        exact wpAny_of_H hQ fuel _ _ H' ⟨ι', H', w'⟩ _ hA (e1.trans hx) rfl hok (hput _ v (e4.mono hx) hv) (e5.mono hx (hdef v))
      · simp only [wantedF_eq e4 hw, Bool.false_eq_true, if_false]
        refine ⟨fun g _ => Fc_fn ro g, ?_⟩
        exact wpAny_of_H hQ fuel _ _ _ c _ hA e1 e2 e3 (hput _ undef e4 (.tup [] rfl (fun i a v h => by simp at h))) (e5.mono (Ext.refl c) (hdef _))

def putS : Option Nat → AV → Slots → Slots
  | none, _, t => t
  | some d, av, t => (d, av) :: t

theorem look_putS (d : Option Nat) (av : AV) (t : Slots) : look (putS d av t) = putF d av (look t) := by cases d <;> rfl

/-- The walk in the text's order. -/
inductive LexH (E : Env) (ro : Option Nat) (n : Nat) (ids : List Nat) (ops : Array Oper) (cl : List Nat) (Kc : Slots → List AObj → Prop) : List Oper → Nat → Slots → List AObj → Prop
  | nil {k : Nat} {t : Slots} {H : List AObj} (h : Kc t H) : LexH E ro n ids ops cl Kc [] k t H
  | cons {o : Oper} {l : List Oper} {k : Nat} {t : Slots} {H : List AObj} (av : AV) (H' : List AObj) (hs : StepH E ro n ids ops (cl.getD k 2) o (look t) H H' av) (h : LexH E ro n ids ops cl Kc l (k + 1) (putS o.dst av t) H') : LexH E ro n ids ops cl Kc (o :: l) k t H
  | weak {l : List Oper} {k : Nat} {t t' : Slots} {H : List AObj} (hl : Less (look t') (look t)) (h : LexH E ro n ids ops cl Kc l k t' H) : LexH E ro n ids ops cl Kc l k t H

theorem LexH.chain {cl : List Nat} {Kc : Slots → List AObj → Prop} {l : List Oper} {k : Nat} {t : Slots} {H : List AObj} (h : LexH E ro n ids ops cl Kc l k t H) : ∃ Fin HF t', chainH E ro n ids ops cl l k (look t) H Fin HF ∧ Kc t' HF ∧ Less (look t') Fin := by
  induction h with
  | nil h => exact ⟨_, _, _, ⟨rfl, rfl⟩, h, Less.refl _⟩
  | cons av H' hs h ih =>
    obtain ⟨Fin, HF, t', h1, h2, h3⟩ := ih
    rw [look_putS] at h1
    exact ⟨Fin, HF, t', ⟨av, H', hs, h1⟩, h2, h3⟩
  | weak hl h ih =>
    obtain ⟨Fin, HF, t', h1, h2, h3⟩ := ih
    obtain ⟨Fin', h4, h5⟩ := chainH_less _ hl h1
    exact ⟨Fin', HF, t', h4, h2, h3.trans h5⟩

/-- A STATEMENT WHOSE ORDER IS OPEN AND THAT WRITES. -/
theorem WpA.drawI {K : Kont} {t : Slots} {id : Nat} {l : List Oper} (ids cl : List Nat) (hB : Region.lexB .any l.toArray = true) (hC : lexClB l.toArray cl = true) (h : LexH E ro n ids l.toArray cl (fun t' H' => K .normal t' H') l 0 t H) :
    WpA E ro n (.region id l.toArray true) K t H := by
  refine ⟨?_⟩
  intro cd c0 c a e1 e2 e3 e4 e5
  simp only [Region.lexB, Bool.and_eq_true] at hB
  obtain ⟨Fin, HF, t', h1, h2, h3⟩ := h.chain
  have hdr := Ext.drew c
  have := anyH_lex (md := .any) l 0 (Array.replicate l.toArray.size false) (look t) H (by simp) (by simpa using hB.2) (by simpa [lexClB] using hC) h1
  refine wpIn_region_any E.mixed (wpAny_of_H (cd := (cd, E.marks)) (c0 := c0) (fun c' a' q1 q2 q3 q4 q5 => Post.mk .normal q1 q3 (q4.less h3).sr q5 trivial (by rw [q2]; exact h2)) _ _ _ H c.drew a (by simpa using this) (e1.trans hdr) e2 (e3.step hdr e3.hr.drew) (e4.sf.mono hdr) (e5.mono hdr rfl))
theorem WpA.drawH {K : Kont} {t : Slots} {id : Nat} {l : List Oper} (cl : List Nat) (hB : Region.lexB .any l.toArray = true) (hC : lexClB l.toArray cl = true) (h : LexH E ro n [] l.toArray cl (fun t' H' => K .normal t' H') l 0 t H) :
    WpA E ro n (.region id l.toArray true) K t H := .drawI [] cl hB hC h
end
end Go.Gp

/- Rules inside a statement that writes and whose order is open; appends to rows; slices of slices. -/
namespace Go.Gp
open Go.RowKit
set_option linter.unusedVariables false
set_option linter.unusedSimpArgs false

/-- An operation that yields nothing. -/
structure U1 (E : Env) (n : Nat) (H H1 : List AObj) (o : Oper) (t : Slots) : Prop where
  nd : notDefer o
  out : ∀ (c : Cfg) (a : Act), c.H = H → Ok E.G c → SR c n t a → ∃ ι' w', (execOp a.eval o).run E.P c.w = .ok .skip w' ∧ Ext c ⟨ι', H1, w'⟩ ∧ HR ⟨ι', H1, w'⟩

section
variable {E : Env} {ro : Option Nat} {n : Nat} {ids : List Nat} {K : Kont} {t : Slots} {H H' H1 L : List AObj} {ops : Array Oper} {o : Oper} {l rest : List Oper} {cl : List Nat} {k d : Nat} {av : AV} {Kc : Slots → List AObj → Prop}

theorem P1.does {l' : List Nat} (h : P1 E n H H' o (cutT l' t) av) : DoesH E ro n o (restr l' (look t)) H H' av :=
  ⟨h.nd, fun c a K Q e2 e3 e4 hK => by
    rw [← look_cut_fn] at e4
    obtain ⟨v, ι', w', hr, hx, hh, hv⟩ := h.out c a e2 e3 e4.sr
    rw [hr, Oper.uponIn_value]
    exact hK ι' w' v hx (e3.step hx hh) hv⟩

theorem U1.does {l' : List Nat} (h : U1 E n H H' o (cutT l' t)) : DoesH E ro n o (restr l' (look t)) H H' .unk :=
  ⟨h.nd, fun c a K Q e2 e3 e4 hK => by
    rw [← look_cut_fn] at e4
    obtain ⟨ι', w', hr, hx, hh⟩ := h.out c a e2 e3 e4.sr
    rw [hr, Oper.uponIn_skip]
    exact hK ι' w' _ hx (e3.step hx hh) .unk⟩

theorem dst_some (hd : o.dst = some d) (hdn : Nat.blt d n = true) : dstOk n o := fun x hx => by rw [hd] at hx; injection hx with hx; subst hx; simpa using hdn

theorem LexH.p0 (hw : wantedA ops t o = some true) (hd : o.dst = some d) (hdn : Nat.blt d n = true) (hc : cl.getD k 2 = 0) (h : ∀ H0, P1 E n H0 H0 o (cutT (o.looksAt ops) t) av)
    (hk : LexH E ro n ids ops cl Kc rest (k + 1) ((d, av) :: t) H) : LexH E ro n ids ops cl Kc (o :: rest) k t H :=
  .cons av H ⟨dst_some hd hdn, .inl ⟨hw, by rw [hc]; exact ⟨rfl, fun H0 => (h H0).does⟩⟩⟩ (by rw [hd]; exact hk)

theorem LexH.p1 (hw : wantedA ops t o = some true) (hd : o.dst = some d) (hdn : Nat.blt d n = true) (hc : cl.getD k 2 = 1) (h : P1 E n H H o (cutT (o.looksAt ops) t) av)
    (hk : LexH E ro n ids ops cl Kc rest (k + 1) ((d, av) :: t) H) : LexH E ro n ids ops cl Kc (o :: rest) k t H :=
  .cons av H ⟨dst_some hd hdn, .inl ⟨hw, by rw [hc]; exact ⟨rfl, h.does⟩⟩⟩ (by rw [hd]; exact hk)

theorem LexH.p2 (hw : wantedA ops t o = some true) (hd : o.dst = some d) (hdn : Nat.blt d n = true) (hc : cl.getD k 2 = 2) (h : P1 E n H H' o (cutT (o.looksAt ops) t) av)
    (hk : LexH E ro n ids ops cl Kc rest (k + 1) ((d, av) :: t) H') : LexH E ro n ids ops cl Kc (o :: rest) k t H :=
  .cons av H' ⟨dst_some hd hdn, .inl ⟨hw, by rw [hc]; exact h.does⟩⟩ (by rw [hd]; exact hk)

theorem LexH.p3 (hw : wantedA ops t o = some true) (hd : o.dst = some d) (hdn : Nat.blt d n = true) (hc : cl.getD k 2 = 3) (hX : Like ids H H') (h : P1 E n H H' o (cutT (o.looksAt ops) t) av)
    (hk : LexH E ro n ids ops cl Kc rest (k + 1) ((d, av) :: t) H') : LexH E ro n ids ops cl Kc (o :: rest) k t H :=
  .cons av H' ⟨dst_some hd hdn, .inl ⟨hw, by rw [hc]; exact ⟨hX, h.does⟩⟩⟩ (by rw [hd]; exact hk)

theorem LexH.p4 (hw : wantedA ops t o = some true) (hd : o.dst = some d) (hdn : Nat.blt d n = true) (hc : cl.getD k 2 = 4) (h : ∀ H0, Like ids H H0 → P1 E n H0 H0 o (cutT (o.looksAt ops) t) av)
    (hk : LexH E ro n ids ops cl Kc rest (k + 1) ((d, av) :: t) H) : LexH E ro n ids ops cl Kc (o :: rest) k t H :=
  .cons av H ⟨dst_some hd hdn, .inl ⟨hw, by rw [hc]; exact ⟨rfl, fun H0 h0 => (h H0 h0).does⟩⟩⟩ (by rw [hd]; exact hk)

theorem LexH.u2 (hw : wantedA ops t o = some true) (hd : o.dst = none) (hc : cl.getD k 2 = 2) (h : U1 E n H H' o (cutT (o.looksAt ops) t))
    (hk : LexH E ro n ids ops cl Kc rest (k + 1) t H') : LexH E ro n ids ops cl Kc (o :: rest) k t H :=
  .cons .unk H' ⟨fun x hx => (by rw [hd] at hx; cases hx), .inl ⟨hw, by rw [hc]; exact h.does⟩⟩ (by rw [hd]; exact hk)

theorem LexH.skip (hw : wantedA ops t o = some false) (hd : o.dst = some d) (hdn : Nat.blt d n = true)
    (hk : LexH E ro n ids ops cl Kc rest (k + 1) ((d, undefA) :: t) H) : LexH E ro n ids ops cl Kc (o :: rest) k t H :=
  .cons undefA H ⟨dst_some hd hdn, .inr ⟨hw, rfl, rfl⟩⟩ (by rw [hd]; exact hk)

theorem LexH.split (d : Nat) (b : Bool) (hb : look t d = .bool b) (h1 : b = true → LexH E ro n ids ops cl Kc l k ((d, .bool true) :: t) H) (h2 : b = false → LexH E ro n ids ops cl Kc l k ((d, .bool false) :: t) H) :
    LexH E ro n ids ops cl Kc l k t H := by
  have key : ∀ v, look t d = v → Less (look ((d, v) :: t)) (look t) := fun v hv i => by
    refine .inr ?_
    show (bif Nat.beq d i then v else look t i) = look t i
    cases hq : Nat.beq d i with
    | false => rfl
    | true => have := Nat.eq_of_beq_eq_true hq; subst this; exact hv.symm
  cases b with
  | true => exact .weak (key _ hb) (h1 rfl)
  | false => exact .weak (key _ hb) (h2 rfl)

theorem LexH.forget (h : LexH E ro n ids ops cl Kc l k ((d, .unk) :: t) H) : LexH E ro n ids ops cl Kc l k t H :=
  .weak (fun i => by
    show (bif Nat.beq d i then AV.unk else look t i) = _ ∨ (bif Nat.beq d i then AV.unk else look t i) = look t i
    cases Nat.beq d i
    · exact .inr rfl
    · exact .inl rfl) h

theorem LexH.gsplit (b : Bool) (hd : guardSlot ops o = some d) (hh : headNe t d = true) (hb : look t d = .bool b)
    (h1 : b = true → LexH E ro n ids ops cl Kc (o :: l) k ((d + 1000000, .unk) :: (d, .bool true) :: t) H) (h2 : b = false → LexH E ro n ids ops cl Kc (o :: l) k ((d + 1000000, .unk) :: (d, .bool false) :: t) H) :
    LexH E ro n ids ops cl Kc (o :: l) k t H := .split d b hb (fun h => .forget (h1 h)) (fun h => .forget (h2 h))

/-- An operation that does not look at the heap in sight. -/
theorem LexH.op0 (av : AV) (hw : wantedA ops t o = some true) (hd : o.dst = some d) (hdn : Nat.blt d n = true) (hc : cl.getD k 2 = 0) (hv : valA E t [] o.op = some av) (hb : ∀ n0, baseN E n0 t o.op = n0)
    (hk : LexH E ro n ids ops cl Kc rest (k + 1) ((d, av) :: t) H) : LexH E ro n ids ops cl Kc (o :: rest) k t H :=
  .p0 hw hd hdn hc (fun H0 => by
    have := P1.op (E := E) (n := n) (o := o) (t := cutT (o.looksAt ops) t) (H := H0) (L := []) (av := av) (by rw [valA_congr fun x hx => ⟨evalA_cut hx, evalO_cut hx⟩]; exact hv) (by rw [baseN_congr fun x hx => evalA_cut hx]; exact hb _)
    rwa [List.append_nil] at this) hk

/-- An operation that reads a box. -/
theorem LexH.op1 (av : AV) (hw : wantedA ops t o = some true) (hd : o.dst = some d) (hdn : Nat.blt d n = true) (hc : cl.getD k 2 = 1) (hv : valA E t L o.op = some av) (hb : baseN E H.length t o.op = H.length)
    (hk : LexH E ro n ids ops cl Kc rest (k + 1) ((d, av) :: t) (H ++ L)) : LexH E ro n ids ops cl Kc (o :: rest) k t (H ++ L) :=
  .p1 hw hd hdn hc (.op (by rw [valA_congr fun x hx => ⟨evalA_cut hx, evalO_cut hx⟩]; exact hv) (by rw [baseN_congr fun x hx => evalA_cut hx]; exact hb)) hk

/-- A load from a box, by its id. -/
theorem P1.loadAt {ty m j off : Nat} {i : TI} {p : Operand} {cs : List AV} {av : AV} (hop : o.op = .load ty p)
    (hp : evalA E.G t p = .ptr m j off) (hL : H[m + j]? = some (.cells cs)) (hi : lookT E.T ty = some i) (hle : Nat.ble (off + i.sz) cs.length = true) (hv : varA i (cs.drop off) = some av) : P1 E n H H o t av :=
  .still (fun cc e => by rw [hop] at e; cases e) (fun c a hH ho s => by
    have hpr := eval_rel ho s p
    rw [hp] at hpr
    generalize hv' : a.eval p = v at hpr
    cases hpr with
    | ptr hb =>
      rename_i b
      obtain ⟨o', h1, h2, h3⟩ := hb
      have hcs : c.H[m + j]? = some (.cells cs) := by rw [hH]; exact hL
      obtain ⟨r, h4, h5⟩ := load_cells ho.hr hi hcs h3 (Nat.le_of_ble_eq_true hle) hv
      exact ⟨r, by simp [execOp, hop, hv', h4], h5⟩)

/-- A load from a box of the activation's own that the statement leaves alone till then. -/
theorem LexH.load4 {ty j off : Nat} {i : TI} {p : Operand} {cs : List AV} (av : AV) (hw : wantedA ops t o = some true) (hd : o.dst = some d) (hdn : Nat.blt d n = true) (hc : cl.getD k 2 = 4) (hop : o.op = .load ty p)
    (hp : evalA E.G t p = .ptr H.length j off) (hid : H.length + j ∈ ids) (hL : L[j]? = some (.cells cs)) (hi : lookT E.T ty = some i) (hle : Nat.ble (off + i.sz) cs.length = true) (hv : varA i (cs.drop off) = some av)
    (hk : LexH E ro n ids ops cl Kc rest (k + 1) ((d, av) :: t) (H ++ L)) : LexH E ro n ids ops cl Kc (o :: rest) k t (H ++ L) :=
  .p4 hw hd hdn hc (fun H0 h0 => .loadAt hop (by rw [evalA_cut (by rw [hop]; simp [Op.operands])]; exact hp) (h0 _ hid _ (app_get rfl hL)) hi hle hv) hk

theorem LexH.elem {ty e z : Nat} {j : TI} {x ix : Operand} {tg : Tag} {xs : List (List AV)} {ki : IntKind} {i : Int} (r : List AV) (hw : wantedA ops t o = some true) (hd : o.dst = some d) (hdn : Nat.blt d n = true) (hc : cl.getD k 2 = 0) (hop : o.op = .indexAddr ty x ix)
    (hs : sliceOf E.T ty = some (e, j)) (hx : evalA E.G t x = .sl tg z xs) (hi : evalA E.G t ix = .int ki i) (hz : j.sz = z) (hz0 : Nat.blt 0 z = true) (h0 : 0 ≤ i) (hl : xs[i.toNat]? = some r)
    (hk : LexH E ro n ids ops cl Kc rest (k + 1) ((d, .rp r) :: t) H) : LexH E ro n ids ops cl Kc (o :: rest) k t H :=
  .p0 hw hd hdn hc (fun H0 => .elem hop hs (by rw [(cut_tmp2' hop).1]; exact hx) (by rw [(cut_tmp2' hop).2]; exact hi) hz hz0 h0 hl) hk

theorem LexH.indexS {ty : Nat} {x ix : Operand} {s : List UInt8} {ki : IntKind} {i : Int} (b : UInt8) (hw : wantedA ops t o = some true) (hd : o.dst = some d) (hdn : Nat.blt d n = true) (hc : cl.getD k 2 = 0) (hop : o.op = .index ty x ix)
    (hs : (lookT E.T ty).map TI.d = some .str) (hx : evalA E.G t x = .str s) (hi : evalA E.G t ix = .int ki i) (h0 : 0 ≤ i) (hl : s[i.toNat]? = some b)
    (hk : LexH E ro n ids ops cl Kc rest (k + 1) ((d, .int .u8 b.toNat) :: t) H) : LexH E ro n ids ops cl Kc (o :: rest) k t H :=
  .p0 hw hd hdn hc (fun H0 => .indexS hop hs (by rw [(cut_tmp2 hop).1]; exact hx) (by rw [(cut_tmp2 hop).2]; exact hi) h0 hl) hk

theorem LexH.build {ty : Nat} {ps : List (Nat × Operand)} (cs : List AV) (hw : wantedA ops t o = some true) (hd : o.dst = some d) (hdn : Nat.blt d n = true) (hc : cl.getD k 2 = 0) (hop : o.op = .build ty ⟨ps⟩) (h : buildA E.T ty (evalP E.G t ps) = some cs)
    (hk : LexH E ro n ids ops cl Kc rest (k + 1) ((d, .agg cs) :: t) H) : LexH E ro n ids ops cl Kc (o :: rest) k t H :=
  .p0 hw hd hdn hc (fun H0 => .build hop (by rw [evalP_congr (xs := ps) (t' := cutT (o.looksAt ops) t) (t := t) fun x hx => evalA_cut (by rw [hop]; simp only [Op.operands, List.map_toArray]; exact List.mem_toArray.2 (List.mem_map.2 ⟨x, hx, rfl⟩))]; exact h)) hk

theorem LexH.buildSlice {ty e len z : Nat} {j : TI} {ps : List (Nat × Operand)} (cs : List AV) (hw : wantedA ops t o = some true) (hd : o.dst = some d) (hdn : Nat.blt d n = true) (hc : cl.getD k 2 = 0) (hop : o.op = .buildSlice ty len ⟨ps⟩) (hs : sliceOf E.T ty = some (e, j)) (hz : j.sz = z)
    (h : fillA (fun k => some (k * z, z)) (List.replicate (len * z) .unk) (evalP E.G t ps) = some cs) (hl : Nat.beq cs.length (len * z) = true) (hsm : Nat.ble (len * z) 16777216 = true) (hb : Nat.blt 0 z = true) (hzc : Nat.beq j.zero.cells.size z = true)
    (hk : LexH E ro n ids ops cl Kc rest (k + 1) ((d, .sl .full z (chunkA z len cs)) :: t) H) : LexH E ro n ids ops cl Kc (o :: rest) k t H :=
  .p0 hw hd hdn hc (fun H0 => .buildSlice hop hs hz (by rw [evalP_congr (xs := ps) (t' := cutT (o.looksAt ops) t) (t := t) fun x hx => evalA_cut (by rw [hop]; simp only [Op.operands, List.map_toArray]; exact List.mem_toArray.2 (List.mem_map.2 ⟨x, hx, rfl⟩))]; exact h) hl hsm (by simpa using hb) hzc) hk

theorem LexH.sh {op : BinOp} {ty : Nat} {x y : Operand} {yt : TypeId} (av : AV) (hw : wantedA ops t o = some true) (hd : o.dst = some d) (hdn : Nat.blt d n = true) (hc : cl.getD k 2 = 0) (hop : o.op = .binOp op ty x y yt) (h : shA op (evalA E.G t x) (evalA E.G t y) = some av)
    (hk : LexH E ro n ids ops cl Kc rest (k + 1) ((d, av) :: t) H) : LexH E ro n ids ops cl Kc (o :: rest) k t H :=
  .p0 hw hd hdn hc (fun H0 => .sh hop (by rw [(cut_bin (ops := ops) (t := t) hop).1, (cut_bin (ops := ops) (t := t) hop).2]; exact h)) hk

/-! ### Stores -/
theorem U1.store {ty j off : Nat} {i : TI} {p x : Operand} {cs ys : List AV} (hop : o.op = .store ty p x)
    (hp : evalA E.G t p = .ptr H.length j off) (hL : L[j]? = some (.cells cs)) (hx : cellsA (evalA E.G t x) = some ys) (hi : lookT E.T ty = some i) (hsz : Nat.beq ys.length i.sz = true) (hone : allOne ys = true) (hle : Nat.ble (off + ys.length) cs.length = true) :
    U1 E n (H ++ L) (H ++ L.set j (.cells (putA cs off ys))) o t :=
  ⟨fun cc e => (by rw [hop] at e; cases e), fun c a hH ho s => by
    have hr := cellsA_rel (eval_rel ho s x) hx
    have hpr := eval_rel ho s p
    rw [hp] at hpr
    generalize hv : a.eval p = v at hpr
    cases hpr with
    | ptr hb =>
      rename_i b
      obtain ⟨o', h1, h2, h3⟩ := hb
      have hcs : c.H[H.length + j]? = some (.cells cs) := by rw [hH]; exact app_get rfl hL
      obtain ⟨w', hrun, hx, hh⟩ := store_sound ho.hr hcs h3 hi hr (allOne_mem hone) (Nat.eq_of_beq_eq_true hsz) (Nat.le_of_ble_eq_true hle)
      unfold Cfg.upd at hx hh
      rw [hH, set_app] at hx hh
      refine ⟨_, w', ?_, hx, hh⟩
      simp [execOp, hop, hv, hrun]⟩

theorem LexH.store {ty j off : Nat} {i : TI} {p x : Operand} {cs ys : List AV} (hw : wantedA ops t o = some true) (hd : o.dst = none) (hc : cl.getD k 2 = 2) (hop : o.op = .store ty p x)
    (hp : evalA E.G t p = .ptr H.length j off) (hL : L[j]? = some (.cells cs)) (hx : cellsA (evalA E.G t x) = some ys) (hi : lookT E.T ty = some i) (hsz : Nat.beq ys.length i.sz = true) (hone : allOne ys = true) (hle : Nat.ble (off + ys.length) cs.length = true)
    (hk : LexH E ro n ids ops cl Kc rest (k + 1) t (H ++ L.set j (.cells (putA cs off ys)))) : LexH E ro n ids ops cl Kc (o :: rest) k t (H ++ L) :=
  .u2 hw hd hc (.store hop (by rw [evalA_cut (by rw [hop]; simp [Op.operands])]; exact hp) hL (by rw [evalA_cut (by rw [hop]; simp [Op.operands])]; exact hx) hi hsz hone hle) hk

/-! ### Appends to rows -/
theorem P1.appR {ty tx e z j : Nat} {i ix : TI} {p q : Operand} {xs ys : List (List AV)}
    (hop : o.op = .call { callee := .builtin .append, args := ⟨[p, q]⟩, argTypes := ⟨[ty, tx]⟩ }) (hs : sliceOf E.T ty = some (e, i)) (hz : i.sz = z) (hx : lookT E.T tx = some ix) (hd : ∀ k, ix.d ≠ .int k)
    (hb : Nat.blt 0 i.bytes = true) (hz0 : Nat.blt 0 z = true) (hzs : Nat.beq i.zero.cells.size z = true) (hp : evalA E.G t p = .sl (.row H.length j) z xs) (hL : L[j]? = some (.tail xs.length z)) (hq : srcA z (evalA E.G t q) = some ys) (hone : ∀ y ∈ ys, ∀ a ∈ y, a.one = true)
    (hfit : (xs.length + ys.length) * i.bytes ≤ 140737488355328) :
    P1 E n (H ++ L) (H ++ L.set j (.tail (xs ++ ys).length z)) o t (.sl (.row H.length j) z (xs ++ ys)) :=
  ⟨fun cc e => (by rw [hop] at e; cases e), fun c a hH ho sr => by
    subst hz
    have hpr := eval_rel ho sr p
    rw [hp] at hpr
    have hqr := eval_rel ho sr q
    obtain ⟨s1, s2⟩ := srcA_ok hq hqr
    have hcH : c.H[H.length + j]? = some (.tail xs.length i.sz) := by rw [hH]; exact app_get rfl hL
    obtain ⟨v', ι', w', h1, h2, h3, h4⟩ := app_row (ty0 := o.type) ho.hr hs hx hd (by simpa using hb) (by simpa using hz0) hone (Nat.eq_of_beq_eq_true hzs) hcH hpr s1 s2 hfit
    rw [hH, set_app] at h2 h3 h4
    rw [List.length_append]
    refine ⟨v', ι', w', ?_, h2, h3, h4⟩
    simp [execOp, hop, resolve, invoke, builtin, h1]⟩

theorem WpOps.appR {ty tx e z j : Nat} {i ix : TI} {p q : Operand} {xs ys : List (List AV)} (hw : wantedA ops t o = some true) (hd : o.dst = some d) (hdn : Nat.blt d n = true)
    (hop : o.op = .call { callee := .builtin .append, args := ⟨[p, q]⟩, argTypes := ⟨[ty, tx]⟩ }) (hs : sliceOf E.T ty = some (e, i)) (hz : i.sz = z) (hx : lookT E.T tx = some ix) (hdd : ∀ k, ix.d ≠ .int k)
    (hb : Nat.blt 0 i.bytes = true) (hz0 : Nat.blt 0 z = true) (hzs : Nat.beq i.zero.cells.size z = true) (hp : evalA E.G t p = .sl (.row H.length j) z xs) (hL : L[j]? = some (.tail xs.length z)) (hq : srcA z (evalA E.G t q) = some ys) (hone : ∀ y ∈ ys, ∀ a ∈ y, a.one = true)
    (hfit : (xs.length + ys.length) * i.bytes ≤ 140737488355328)
    (hk : WpOps E ro n ops rest K ((d, .sl (.row H.length j) z (xs ++ ys)) :: t) (H ++ L.set j (.tail (xs ++ ys).length z))) : WpOps E ro n ops (o :: rest) K t (H ++ L) :=
  .p1 hw hd hdn (.appR hop hs hz hx hdd hb hz0 hzs hp hL hq hone hfit) hk

theorem LexH.appR {ty tx e z j : Nat} {i ix : TI} {p q : Operand} {xs ys : List (List AV)} (hw : wantedA ops t o = some true) (hd : o.dst = some d) (hdn : Nat.blt d n = true) (hc : cl.getD k 2 = 2)
    (hop : o.op = .call { callee := .builtin .append, args := ⟨[p, q]⟩, argTypes := ⟨[ty, tx]⟩ }) (hs : sliceOf E.T ty = some (e, i)) (hz : i.sz = z) (hx : lookT E.T tx = some ix) (hdd : ∀ k, ix.d ≠ .int k)
    (hb : Nat.blt 0 i.bytes = true) (hz0 : Nat.blt 0 z = true) (hzs : Nat.beq i.zero.cells.size z = true) (hp : evalA E.G t p = .sl (.row H.length j) z xs) (hL : L[j]? = some (.tail xs.length z)) (hq : srcA z (evalA E.G t q) = some ys) (hone : ∀ y ∈ ys, ∀ a ∈ y, a.one = true)
    (hfit : (xs.length + ys.length) * i.bytes ≤ 140737488355328)
    (hk : LexH E ro n ids ops cl Kc rest (k + 1) ((d, .sl (.row H.length j) z (xs ++ ys)) :: t) (H ++ L.set j (.tail (xs ++ ys).length z))) : LexH E ro n ids ops cl Kc (o :: rest) k t (H ++ L) :=
  .p2 hw hd hdn hc (.appR hop hs hz hx hdd hb hz0 hzs (by rw [evalA_cut (by rw [hop]; simp [Op.operands, Call.operands])]; exact hp) hL (by rw [evalA_cut (by rw [hop]; simp [Op.operands, Call.operands])]; exact hq) hone hfit) hk

theorem LexH.appF {ty tx e z : Nat} {j ix : TI} {p q : Operand} {xs ys : List (List AV)} (hw : wantedA ops t o = some true) (hd : o.dst = some d) (hdn : Nat.blt d n = true) (hc : cl.getD k 2 = 0)
    (hop : o.op = .call { callee := .builtin .append, args := ⟨[p, q]⟩, argTypes := ⟨[ty, tx]⟩ }) (hs : sliceOf E.T ty = some (e, j)) (hz : j.sz = z) (hx : lookT E.T tx = some ix) (hdd : ∀ k, ix.d ≠ .int k)
    (hb : Nat.blt 0 j.bytes = true) (hp : evalA E.G t p = .sl .full z xs) (hq : srcA z (evalA E.G t q) = some ys) (hfit : (xs.length + ys.length) * j.bytes ≤ 140737488355328)
    (hk : LexH E ro n ids ops cl Kc rest (k + 1) ((d, .sl .no z (xs ++ ys)) :: t) H) : LexH E ro n ids ops cl Kc (o :: rest) k t H :=
  .p0 hw hd hdn hc (fun H0 => .appF hop hs hz hx hdd hb (by rw [evalA_cut (by rw [hop]; simp [Op.operands, Call.operands])]; exact hp) (by rw [evalA_cut (by rw [hop]; simp [Op.operands, Call.operands])]; exact hq) hfit) hk
end
end Go.Gp
