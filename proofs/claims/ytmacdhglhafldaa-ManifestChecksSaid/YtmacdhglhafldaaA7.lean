/- Stores into boxes; elements of slices, arrays, strings. -/
import Derived.Test.YtmacdhglhafldaaA6
namespace Go.Gp
open Go.RowKit
set_option linter.unusedVariables false
set_option linter.unusedSimpArgs false

/-- One block has been turned, nothing else. -/
structure Turned (w w' : World) (b : Nat) : Prop where
  os : w'.os = w.os
  tape : w'.tape = w.tape
  output : w'.output = w.output
  size : w'.heap.size = w.heap.size
  other : ∀ k, k ≠ b → w'.heap[k]? = w.heap[k]?

theorem Turned.refl (w : World) (b : Nat) : Turned w w b := ⟨rfl, rfl, rfl, rfl, fun _ _ => rfl⟩
theorem Turned.trans {w w' w'' : World} {b : Nat} (h : Turned w w' b) (k : Turned w' w'' b) : Turned w w'' b :=
  ⟨k.os.trans h.os, k.tape.trans h.tape, k.output.trans h.output, k.size.trans h.size, fun i hi => (k.other i hi).trans (h.other i hi)⟩

theorem turned_setCell (w : World) (b off : Nat) (v : Value) : Turned w (w.setCell ⟨b, off, none⟩ v) b :=
  ⟨rfl, rfl, rfl, by simp [World.setCell], fun k hk => Below.heap_setCell w _ v k hk⟩

theorem heap_setCell_at {w : World} {b off : Nat} {v : Value} {arr : Array Value} {e : TypeId} {fr : Nat × Nat} (h : w.heap[b]? = some (.cells arr e fr)) : (w.setCell ⟨b, off, none⟩ v).heap[b]? = some (.cells (arr.setIfInBounds off v) e fr) := by
  simp [World.setCell, Array.getElem?_modify, h]

/-- Positions off, off + 1, .. of a row are written. -/
def wrote (arr : Array Value) (off : Nat) (vs : List Value) (arr' : Array Value) : Prop :=
  arr'.size = arr.size ∧ ∀ k : Nat, arr'[k]? = if off ≤ k ∧ k < off + vs.length then vs[k - off]? else arr[k]?

theorem run_storeCells {P : Program} {b off : Nat} {e : TypeId} : ∀ (vs : List Value) (i : Nat) (w : World) (arr : Array Value), w.heap[b]? = some (.cells arr e (0, 0)) → off + i + vs.length ≤ arr.size → (∀ v ∈ vs, v.oneCell' = true) →
    ∃ w' arr', (storeCells ⟨b, off, none⟩ vs i).run P w = .ok () w' ∧ Turned w w' b ∧ w'.heap[b]? = some (.cells arr' e (0, 0)) ∧ wrote arr (off + i) vs arr'
  | [], i, w, arr, h, _, _ => ⟨w, arr, by simp [storeCells], Turned.refl w b, h, rfl, fun k => by rw [if_neg (by simp only [List.length_nil]; omega)]⟩
  | v :: vs, i, w, arr, h, hle, h1 => by
    simp only [List.length_cons] at hle
    have hadd : (⟨b, off, none⟩ : Addr).add i = ⟨b, off + i, none⟩ := by
      unfold Addr.add
      split
      · rename_i h0; subst h0; rfl
      · rfl
    have hlt : off + i < arr.size := by omega
    have hc : w.cell? ⟨b, off + i, none⟩ = some arr[off + i] := cell?_of h (Array.getElem?_eq_getElem hlt)
    have hf : w.frozen? ⟨b, off + i, none⟩ = false := by simp [World.frozen?, h]
    have h2 := heap_setCell_at (off := off + i) (v := v) h
    obtain ⟨w', arr', hr, ht, hb, hs, hk⟩ := run_storeCells (P := P) (off := off) vs (i + 1) (w.setCell ⟨b, off + i, none⟩ v) _ h2 (by simp; omega) (fun u hu => h1 u (List.mem_cons_of_mem _ hu))
    refine ⟨w', arr', ?_, (turned_setCell w b (off + i) v).trans ht, hb, by simpa using hs, fun k => ?_⟩
    · unfold storeCells
      rw [Sem.run_bind, hadd, run_store P w _ v .plain (h1 v List.mem_cons_self), hc]
      simp only [hf, Bool.false_eq_true, if_false, Result.andThen_ok]
      exact hr
    · rw [hk k]
      simp only [List.length_cons, Array.getElem?_setIfInBounds]
      by_cases hk1 : off + (i + 1) ≤ k ∧ k < off + (i + 1) + vs.length
      · rw [if_pos hk1, if_pos (by omega), show k - (off + i) = (k - (off + (i + 1))) + 1 from by omega, List.getElem?_cons_succ]
      · rw [if_neg hk1]
        by_cases hk0 : k = off + i
        · subst hk0
          rw [if_pos rfl, if_pos hlt, if_pos (by omega), Nat.sub_self]
          rfl
        · rw [if_neg (fun e => hk0 e.symm), if_neg (by omega)]

/-! ### A live block's object is turned -/
def Cfg.upd (c : Cfg) (id : Nat) (o : AObj) (w' : World) : Cfg := { c with H := c.H.set id o, w := w' }

theorem set_get {H : List AObj} {id k : Nat} {o o' : AObj} (hid : id < H.length) : (H.set id o)[k]? = some o' ↔ (k = id ∧ o' = o) ∨ (k ≠ id ∧ H[k]? = some o') := by
  rw [List.getElem?_set]
  by_cases h : id = k
  · subst h
    rw [if_pos rfl, if_pos hid]
    simp [eq_comm]
  · rw [if_neg h]
    simp [Ne.symm h]

theorem Ext.upd {c : Cfg} {id b : Nat} {o o' : AObj} {w' : World} (h : HR c) (hH : c.H[id]? = some o) (hi : c.ι id = some b) (hl : o.live = true) (hb : o.box = true) (hl' : o'.live = true) (hb' : o'.box = true)
    (hw : ∀ k : Nat, o.wr k) (ht : Turned c.w w' b) : Ext c (c.upd id o' w') := by
  have hid := get_lt hH
  exact {
    fz := fun p v _ hf => by
      have hne : p.block ≠ b := fun e => hf.2 ⟨id, o, hH, by rw [e]; exact hi, hw _⟩
      refine ⟨?_, ?_⟩
      · have h1 := hf.1
        unfold World.cell? at h1 ⊢
        show (match w'.heap[p.block]? with | some (.cells c _ _) => if p.spot.isSome then none else c[p.off]? | _ => none) = _
        rw [ht.other _ hne]
        exact h1
      · rintro ⟨k, x, h1, h2, h3⟩
        rcases (set_get hid).1 h1 with ⟨rfl, rfl⟩ | ⟨_, h1⟩
        · exact hne (by have : c.ι k = some p.block := h2; rw [hi] at this; simpa using this.symm)
        · exact hf.2 ⟨k, x, h1, h2, h3⟩
    bx := fun k b1 ⟨x, h1, h2, h3⟩ => by
      by_cases hk : k = id
      · exact ⟨o', (set_get hid).2 (.inl ⟨hk, rfl⟩), hb', h3⟩
      · exact ⟨x, (set_get hid).2 (.inr ⟨hk, h1⟩), h2, h3⟩
    tl := fun k n z hn => by
      have hk : k ≠ id := fun e => by subst e; rw [hH] at hn; injection hn with hn; subst hn; simp [AObj.box] at hb
      refine .inr ⟨n, (set_get hid).2 (.inr ⟨hk, hn⟩), Nat.le_refl _, fun _ => ⟨rfl, fun b1 arr e h1 h2 => ⟨arr, ?_, rfl⟩⟩⟩
      have : b1 ≠ b := fun e => by subst e; exact hk (h.inj k id b1 _ _ hn hH rfl hl h1 hi)
      exact (ht.other _ this).trans h2
    dd := fun k hd => by
      have hk : k ≠ id := fun e => by subst e; rw [hH] at hd; injection hd with hd; subst hd; simp [AObj.live] at hl
      exact (set_get hid).2 (.inr ⟨hk, hd⟩)
    size := by show _ ≤ w'.heap.size; rw [ht.size]; exact Nat.le_refl _
    os := ht.os
    tape := ht.tape
    output := ht.output
    hlen := by show _ ≤ (c.H.set id o').length; simp
    outer := fun k hk hn => ht.other k (fun e => by subst e; exact hn id o hH hl hi)
    nw := fun k b1 x hx hlx hix hb1 => by
      rcases (set_get hid).1 hx with ⟨rfl, rfl⟩ | ⟨_, hx⟩
      · exact ⟨o, hH, hl, hix⟩
      · exact ⟨x, hx, hlx, hix⟩ }

theorem HR.upd {c : Cfg} {id b : Nat} {o o' : AObj} {w' : World} (h : HR c) (hH : c.H[id]? = some o) (hi : c.ι id = some b) (hl : o.live = true) (hx : Ext c (c.upd id o' w')) (ht : Turned c.w w' b)
    (ho : objRel (c.upd id o' w') b o') : HR (c.upd id o' w') := by
  have hid := get_lt hH
  exact {
    dom := fun k b1 hk => by show k < (c.H.set id o').length; simp; exact h.dom k b1 hk
    ex := fun k x hk hbx hlx => by
      rcases (set_get hid).1 hk with ⟨rfl, rfl⟩ | ⟨_, hk⟩
      · exact ⟨b, hi⟩
      · exact h.ex k x hk hbx hlx
    obj := fun k b1 x hk hik hlx => by
      rcases (set_get hid).1 hk with ⟨rfl, rfl⟩ | ⟨hne, hk⟩
      · have : b1 = b := by have h2 : c.ι k = some b1 := hik; rw [hi] at h2; simpa using h2.symm
        subst this
        exact ho
      · have hb1 : b1 ≠ b := fun e => by subst e; exact hne (h.inj k id b1 _ _ hk hH hlx hl hik hi)
        exact (h.obj k b1 x hk hik hlx).mono hx.toExt0 (ht.other _ hb1)
    inj := fun i j b1 x y h1 h2 l1 l2 i1 i2 => by
      rcases (set_get hid).1 h1 with ⟨e1, _⟩ | ⟨_, g1⟩
      · rcases (set_get hid).1 h2 with ⟨e2, _⟩ | ⟨_, g2⟩
        · rw [e1, e2]
        · exact h.inj i j b1 _ _ (by rw [e1]; exact hH) g2 hl l2 i1 i2
      · rcases (set_get hid).1 h2 with ⟨e2, _⟩ | ⟨_, g2⟩
        · exact h.inj i j b1 _ _ g1 (by rw [e2]; exact hH) l1 hl i1 i2
        · exact h.inj i j b1 _ _ g1 g2 l1 l2 i1 i2
    bound := fun k b1 hk => by show b1 < w'.heap.size; rw [ht.size]; exact h.bound k b1 hk }

/-- A box's cells from off on are written. -/
def putA (cs : List AV) (off : Nat) : List AV → List AV
  | [a] => cs.set off a
  | as => cs.take off ++ as ++ cs.drop (off + as.length)

theorem putA_get (cs : List AV) (off : Nat) (as : List AV) (h : off + as.length ≤ cs.length) (k : Nat) : (putA cs off as)[k]? = if off ≤ k ∧ k < off + as.length then as[k - off]? else cs[k]? := by
  have gen : (cs.take off ++ as ++ cs.drop (off + as.length))[k]? = if off ≤ k ∧ k < off + as.length then as[k - off]? else cs[k]? := by
    have hl : (cs.take off).length = off := by rw [List.length_take]; omega
    by_cases h1 : k < off
    · rw [if_neg (by omega), List.append_assoc, List.getElem?_append_left (by omega), List.getElem?_take, if_pos h1]
    · by_cases h2 : k < off + as.length
      · rw [if_pos (by omega), List.getElem?_append_left (by rw [List.length_append]; omega), List.getElem?_append_right (by omega), hl]
      · rw [if_neg (by omega), List.getElem?_append_right (by rw [List.length_append]; omega), List.getElem?_drop, List.length_append, hl]
        congr 1
        omega
  unfold putA
  split
  · rename_i a
    rw [List.getElem?_set]
    simp only [List.length_singleton] at h ⊢
    by_cases hk : off = k
    · subst hk
      rw [if_pos rfl, if_pos (by omega), if_pos (by omega), Nat.sub_self]
      rfl
    · rw [if_neg hk, if_neg (by omega)]
  · exact gen

theorem putA_length (cs : List AV) (off : Nat) (as : List AV) (h : off + as.length ≤ cs.length) : (putA cs off as).length = cs.length := by
  unfold putA
  split
  · simp
  · simp; omega

theorem set_app {H L : List AObj} {j : Nat} {o : AObj} : (H ++ L).set (H.length + j) o = H ++ L.set j o := by
  rw [List.set_append]
  rw [if_neg (by omega), Nat.add_sub_cancel_left]

theorem store_sound {E : Env} {c : Cfg} {id b off ty : Nat} {i : TI} {cs as : List AV} {v : Value} (ho : HR c) (hH : c.H[id]? = some (.cells cs)) (hi : c.ι id = some b) (hti : lookT E.T ty = some i)
    (hr : RelL c as v.cells.toList) (hone : ∀ a ∈ as, a.one = true) (hsz : as.length = i.sz) (hle : off + as.length ≤ cs.length) :
    ∃ w', (Instr.storeAt ty (.pointer (some ⟨b, off, none⟩)) v).run E.P c.w = .ok () w' ∧ Ext c (c.upd id (.cells (putA cs off as)) w') ∧ HR (c.upd id (.cells (putA cs off as)) w') := by
  obtain ⟨arr, e, vs, h1, h2, h3, h4, h5⟩ := box_cells ho hH hi
  have hlen : v.cells.toList.length = as.length := hr.1.symm
  obtain ⟨w', arr', hrun, ht, hb, hs, hk⟩ := run_storeCells (P := E.P) (b := b) (off := off) v.cells.toList 0 c.w arr h1 (by omega) (fun u hu => by
    obtain ⟨k, hk⟩ := List.getElem?_of_mem hu
    have hka : k < as.length := by rw [← hlen]; exact (List.getElem?_eq_some_iff.1 hk).1
    exact (hr.2 k _ u (List.getElem?_eq_getElem hka) hk).one' (hone _ (List.getElem_mem hka)))
  have hx := Ext.upd (o := .cells cs) (o' := .cells (putA cs off as)) (w' := w') ho hH hi rfl rfl rfl rfl (fun _ => trivial) ht
  refine ⟨w', ?_, hx, HR.upd ho hH hi rfl hx ht ?_⟩
  · simp only [Instr.storeAt, Instr.sureAddr, Sem.run_bind, Sem.run_pure, Result.andThen_ok, storeVar, run_sizeOf hti]
    rw [if_neg (by rw [← hsz, ← hlen]; simp)]
    simpa using hrun
  · refine ⟨arr', e, hb, by rw [putA_length _ _ _ hle, hs]; exact h5, fun k a ha => ?_⟩
    rw [putA_get _ _ _ hle] at ha
    have := hk k
    simp only [Nat.add_zero, hlen] at this
    rw [this]
    by_cases hc : off ≤ k ∧ k < off + as.length
    · rw [if_pos hc] at ha ⊢
      obtain ⟨u, hu, hru⟩ := hr.get ha
      exact ⟨u, hu, hru.mono hx.toExt0⟩
    · rw [if_neg hc] at ha ⊢
      obtain ⟨u, hu, hru⟩ := h3.get ha
      exact ⟨u, h4 k u hu, hru.mono hx.toExt0⟩

def allOne : List AV → Bool
  | [] => true
  | a :: as => a.one && allOne as

theorem allOne_mem : ∀ {as : List AV}, allOne as = true → ∀ a ∈ as, a.one = true
  | [], _, a, h => by simp at h
  | x :: xs, h, a, ha => by
    simp only [allOne, Bool.and_eq_true] at h
    rcases List.mem_cons.1 ha with rfl | ha
    · exact h.1
    · exact allOne_mem h.2 a ha

/-- The slice type's element type. -/
def sliceOf (T : List (Nat × TI)) (ty : Nat) : Option (Nat × TI) :=
  match lookT T ty with
  | some i => match i.d with
    | .slice e => match lookT T e with
      | some j => some (e, j)
      | none => none
    | _ => none
  | none => none

theorem sliceOf_spec {E : Env} {ty e : Nat} {j : TI} (h : sliceOf E.T ty = some (e, j)) : E.P.underlying ty = some (.slice e) ∧ lookT E.T e = some j := by
  unfold sliceOf at h
  split at h <;> try simp at h
  rename_i i hi
  split at h <;> try simp at h
  rename_i e' he
  split at h <;> try simp at h
  rename_i j' hj
  obtain ⟨rfl, rfl⟩ := h
  obtain ⟨d, hu, hok⟩ := (Env.ti hi).u
  rw [he] at hok
  have hok' : d = .slice e' := hok
  subst hok'
  exact ⟨hu, hj⟩

def arrayOf (T : List (Nat × TI)) (ty : Nat) : Option (Nat × TI) :=
  match lookT T ty with
  | some i => match i.d with
    | .array n e => match lookT T e with
      | some j => some (n, j)
      | none => none
    | _ => none
  | none => none

theorem arrayOf_spec {E : Env} {ty n : Nat} {j : TI} (h : arrayOf E.T ty = some (n, j)) : ∃ e, E.P.underlying ty = some (.array n e) ∧ lookT E.T e = some j := by
  unfold arrayOf at h
  split at h <;> try simp at h
  rename_i i hi
  split at h <;> try simp at h
  rename_i m e' he
  split at h <;> try simp at h
  rename_i j' hj
  obtain ⟨rfl, rfl⟩ := h
  obtain ⟨d, hu, hok⟩ := (Env.ti hi).u
  rw [he] at hok
  have hok' : d = .array m e' := hok
  subst hok'
  exact ⟨e', hu, hj⟩

section rules
variable {E : Env} {ro : Option Nat} {n : Nat} {K : Kont} {t : Slots} {H L : List AObj} {ops : Array Oper} {o : Oper} {rest : List Oper}

/-- A STORE INTO A BOX OF THE ACTIVATION'S OWN. -/
theorem WpOps.store {ty j off : Nat} {i : TI} {p x : Operand} {cs as : List AV} (hw : wantedA ops t o = some true) (hd : o.dst = none) (hop : o.op = .store ty p x)
    (hp : evalA E.G t p = .ptr H.length j off) (hL : L[j]? = some (.cells cs)) (hx : cellsA (evalA E.G t x) = some as) (hi : lookT E.T ty = some i) (hsz : Nat.beq as.length i.sz = true) (hone : allOne as = true) (hle : Nat.ble (off + as.length) cs.length = true)
    (hk : WpOps E ro n ops rest K t (H ++ L.set j (.cells (putA cs off as)))) : WpOps E ro n ops (o :: rest) K t (H ++ L) :=
  .unit hw hd (fun cc e => by rw [hop] at e; cases e) (fun c a hH ho s => by
    have hr := cellsA_rel (eval_rel ho s x) hx
    have hpr := eval_rel ho s p
    rw [hp] at hpr
    generalize hv : a.eval p = v at hpr
    cases hpr with
    | ptr hb =>
      rename_i b
      obtain ⟨o', h1, h2, h3⟩ := hb
      have hcs : c.H[H.length + j]? = some (.cells cs) := by rw [hH]; exact app_get rfl hL
      obtain ⟨w', hrun, hx, hh⟩ := store_sound ho.hr hcs h3 hi hr (allOne_mem hone) (Nat.eq_of_beq_eq_true hsz) (Nat.le_of_ble_eq_true hle)
      unfold Cfg.upd at hx hh
      rw [hH, set_app] at hx hh
      refine ⟨_, w', ?_, hx, hh⟩
      simp [execOp, hop, hv, hrun]) hk

/-- A store into a box that came in. -/
theorem WpOps.storeOut {ty m j off : Nat} {i : TI} {p x : Operand} {cs as : List AV} (hw : wantedA ops t o = some true) (hd : o.dst = none) (hop : o.op = .store ty p x)
    (hp : evalA E.G t p = .ptr m j off) (hL : H[m + j]? = some (.cells cs)) (hx : cellsA (evalA E.G t x) = some as) (hi : lookT E.T ty = some i) (hsz : Nat.beq as.length i.sz = true) (hone : allOne as = true) (hle : Nat.ble (off + as.length) cs.length = true)
    (hk : WpOps E ro n ops rest K t (H.set (m + j) (.cells (putA cs off as)) ++ L)) : WpOps E ro n ops (o :: rest) K t (H ++ L) :=
  .unit hw hd (fun cc e => by rw [hop] at e; cases e) (fun c a hH ho s => by
    have hr := cellsA_rel (eval_rel ho s x) hx
    have hpr := eval_rel ho s p
    rw [hp] at hpr
    generalize hv : a.eval p = v at hpr
    cases hpr with
    | ptr hb =>
      rename_i b
      obtain ⟨o', h1, h2, h3⟩ := hb
      have hcs : c.H[m + j]? = some (.cells cs) := by rw [hH, List.getElem?_append_left (get_lt hL)]; exact hL
      obtain ⟨w', hrun, hx, hh⟩ := store_sound ho.hr hcs h3 hi hr (allOne_mem hone) (Nat.eq_of_beq_eq_true hsz) (Nat.le_of_ble_eq_true hle)
      unfold Cfg.upd at hx hh
      rw [hH, List.set_append, if_pos (get_lt hL)] at hx hh
      refine ⟨_, w', ?_, hx, hh⟩
      simp [execOp, hop, hv, hrun]) hk

/-- A load from a box that came in. -/
theorem WpOps.loadOut {d ty m j off : Nat} {i : TI} {p : Operand} {cs : List AV} (av : AV) (hw : wantedA ops t o = some true) (hd : o.dst = some d) (hdn : Nat.blt d n = true) (hop : o.op = .load ty p)
    (hp : evalA E.G t p = .ptr m j off) (hL : H[m + j]? = some (.cells cs)) (hi : lookT E.T ty = some i) (hle : Nat.ble (off + i.sz) cs.length = true) (hv : varA i (cs.drop off) = some av)
    (hk : WpOps E ro n ops rest K ((d, av) :: t) (H ++ L)) : WpOps E ro n ops (o :: rest) K t (H ++ L) :=
  .value hw hd hdn (fun cc e => by rw [hop] at e; cases e) (fun c a hH ho s => by
    have hpr := eval_rel ho s p
    rw [hp] at hpr
    generalize hv' : a.eval p = v at hpr
    cases hpr with
    | ptr hb =>
      rename_i b
      obtain ⟨o', h1, h2, h3⟩ := hb
      have hcs : c.H[m + j]? = some (.cells cs) := by rw [hH, List.getElem?_append_left (get_lt hL)]; exact hL
      obtain ⟨r, h4, h5⟩ := load_cells ho.hr hi hcs h3 (Nat.le_of_ble_eq_true hle) hv
      exact ⟨r, c.ι, c.w, by simp [execOp, hop, hv', h4], by rw [← hH]; exact Ext.refl c, by rw [← hH]; exact ho.hr, by rw [← hH]; exact h5⟩) hk

/-- AN ELEMENT OF A SLICE, its address. -/
theorem WpOps.elem {d ty e z : Nat} {j : TI} {x ix : Operand} {tg : Tag} {xs : List (List AV)} {k : IntKind} {i : Int} (l : List AV) (hw : wantedA ops t o = some true) (hd : o.dst = some d) (hdn : Nat.blt d n = true) (hop : o.op = .indexAddr ty x ix)
    (hs : sliceOf E.T ty = some (e, j)) (hx : evalA E.G t x = .sl tg z xs) (hi : evalA E.G t ix = .int k i) (hz : j.sz = z) (hz0 : Nat.blt 0 z = true) (h0 : 0 ≤ i) (hl : xs[i.toNat]? = some l)
    (hk : WpOps E ro n ops rest K ((d, .rp l) :: t) H) : WpOps E ro n ops (o :: rest) K t H :=
  .value hw hd hdn (fun cc e => by rw [hop] at e; cases e) (fun c a hH ho s => by
    obtain ⟨hu, hj⟩ := sliceOf_spec hs
    have hxr := eval_rel ho s x
    rw [hx] at hxr
    have hir := eval_rel ho s ix
    rw [hi] at hir
    generalize hv : a.eval x = v at hxr
    generalize hv2 : a.eval ix = v2 at hir
    cases hir
    cases hxr with
    | sl vs hlen hc hzz ht hf hr =>
      rename_i ad len cap
      have hlt : i.toNat < len := by rw [← hlen]; exact (List.getElem?_eq_some_iff.1 hl).1
      have hll : l.length = z := hzz l (List.mem_of_getElem? hl)
      have hrp : ∀ p, ad = some p → p.spot = none → RelV c (.rp l) (.pointer (some (p.add (i.toNat * z)))) := fun p hp hsp => by
        refine .rp (fun q => vs i.toNat q) (addr_add_spot p hsp _) (fun q hq => ?_) (fun q e he => hr _ _ l e hl he)
        obtain ⟨ad', e1, e2, e3⟩ := hf i.toNat q hlt (by omega)
        rw [hp] at e1
        injection e1 with e1
        subst e1
        rw [addr_add_add p hsp]
        exact e3
      cases ad with
      | none =>
        obtain ⟨ad', e1, _⟩ := hf i.toNat 0 hlt (by simpa using hz0)
        cases e1
      | some p =>
        have hsp : p.spot = none := by
          obtain ⟨ad', e1, e2, _⟩ := hf i.toNat 0 hlt (by simpa using hz0)
          injection e1 with e1
          subst e1
          exact e2
        refine ⟨_, c.ι, c.w, ?_, by rw [← hH]; exact Ext.refl c, by rw [← hH]; exact ho.hr, by rw [← hH]; exact hrp p rfl hsp⟩
        have hb : 0 ≤ i ∧ i < (len : Int) := ⟨h0, by omega⟩
        simp [execOp, hop, hv, hv2, Instr.indexAt, asIntOf, run_underlying hu, hb, run_sizeOf hj, hz]) hk
end rules
end Go.Gp
