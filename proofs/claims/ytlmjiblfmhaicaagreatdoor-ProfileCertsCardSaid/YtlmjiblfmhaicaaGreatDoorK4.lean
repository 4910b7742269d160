/- Part of a proof: GpA7, GpA8, GpA9 -/
import Derived.Test.YtlmjiblfmhaicaaGreatDoorK3

set_option linter.unusedSectionVars false

/- Stores into boxes; elements of slices, arrays, strings. -/
namespace Go.Gp
open Go.RowKit
set_option linter.unusedVariables false
set_option linter.unusedSimpArgs false

/-- One block has been turned, nothing else. -/
structure Turned (w w' : World) (b : Nat) : Prop where
  os : w'.os = w.os
  tape : w'.tape = w.tape
  output : w'.output = w.output
  size : w'.heap.size = w.heap.size
  other : ∀ k, k ≠ b → w'.heap[k]? = w.heap[k]?
  room : ∀ n, blkOk w b n → blkOk w' b n

theorem Turned.refl (w : World) (b : Nat) : Turned w w b := ⟨rfl, rfl, rfl, rfl, fun _ _ => rfl, fun _ h => h⟩
theorem Turned.trans {w w' w'' : World} {b : Nat} (h : Turned w w' b) (k : Turned w' w'' b) : Turned w w'' b :=
  ⟨k.os.trans h.os, k.tape.trans h.tape, k.output.trans h.output, k.size.trans h.size, fun i hi => (k.other i hi).trans (h.other i hi), fun n hn => k.room n (h.room n hn)⟩

theorem turned_setCell (w : World) (b off : Nat) (v : Value) : Turned w (w.setCell ⟨b, off, none⟩ v) b :=
  ⟨rfl, rfl, rfl, by simp [World.setCell], fun k hk => Below.heap_setCell w _ v k hk, fun n ⟨arr, e, fr, h1, h2⟩ => ⟨arr.setIfInBounds off v, e, fr, by simp [World.setCell, Array.getElem?_modify, h1], by simpa using h2⟩⟩

theorem heap_setCell_at {w : World} {b off : Nat} {v : Value} {arr : Array Value} {e : TypeId} {fr : Nat × Nat} (h : w.heap[b]? = some (.cells arr e fr)) : (w.setCell ⟨b, off, none⟩ v).heap[b]? = some (.cells (arr.setIfInBounds off v) e fr) := by
  simp [World.setCell, Array.getElem?_modify, h]

/-- Positions off, off + 1, .. of a row are written. -/
def wrote (arr : Array Value) (off : Nat) (vs : List Value) (arr' : Array Value) : Prop :=
  arr'.size = arr.size ∧ ∀ k : Nat, arr'[k]? = if off ≤ k ∧ k < off + vs.length then vs[k - off]? else arr[k]?

theorem run_storeCells {P : Program} {b off : Nat} {e : TypeId} : ∀ (vs : List Value) (i : Nat) (w : World) (arr : Array Value), w.heap[b]? = some (.cells arr e (0, 0)) → off + i + vs.length ≤ arr.size → (∀ v ∈ vs, v.oneCell' = true) →
    ∃ w' arr', (storeCells ⟨b, off, none⟩ vs i).run P w = .ok () w' ∧ Turned w w' b ∧ w'.heap[b]? = some (.cells arr' e (0, 0)) ∧ wrote arr (off + i) vs arr'
  | [], i, w, arr, h, _, _ => ⟨w, arr, by simp [storeCells], Turned.refl w b, h, rfl, fun k => by rw [if_neg (by simp only [List.length_nil]; omega)]⟩
  | v :: vs, i, w, arr, h, hle, h1 => by
    simp only [List.length_cons] at hle
    have hadd : (⟨b, off, none⟩ : Addr).add i = ⟨b, off + i, none⟩ := by
      unfold Addr.add
      split
      · rename_i h0; subst h0; rfl
      · rfl
    have hlt : off + i < arr.size := by omega
    have hc : w.cell? ⟨b, off + i, none⟩ = some arr[off + i] := cell?_of h (Array.getElem?_eq_getElem hlt)
    have hf : w.frozen? ⟨b, off + i, none⟩ = false := by simp [World.frozen?, h]
    have h2 := heap_setCell_at (off := off + i) (v := v) h
    obtain ⟨w', arr', hr, ht, hb, hs, hk⟩ := run_storeCells (P := P) (off := off) vs (i + 1) (w.setCell ⟨b, off + i, none⟩ v) _ h2 (by simp; omega) (fun u hu => h1 u (List.mem_cons_of_mem _ hu))
    refine ⟨w', arr', ?_, (turned_setCell w b (off + i) v).trans ht, hb, by simpa using hs, fun k => ?_⟩
    · unfold storeCells
      rw [Sem.run_bind, hadd, run_store P w _ v .plain (h1 v List.mem_cons_self), hc]
      simp only [hf, Bool.false_eq_true, if_false, Result.andThen_ok]
      exact hr
    · rw [hk k]
      simp only [List.length_cons, Array.getElem?_setIfInBounds]
      by_cases hk1 : off + (i + 1) ≤ k ∧ k < off + (i + 1) + vs.length
      · rw [if_pos hk1, if_pos (by omega), show k - (off + i) = (k - (off + (i + 1))) + 1 from by omega, List.getElem?_cons_succ]
      · rw [if_neg hk1]
        by_cases hk0 : k = off + i
        · subst hk0
          rw [if_pos rfl, if_pos hlt, if_pos (by omega), Nat.sub_self]
          rfl
        · rw [if_neg (fun e => hk0 e.symm), if_neg (by omega)]

/-! ### A live block's object is turned -/
def Cfg.upd (c : Cfg) (id : Nat) (o : AObj) (w' : World) : Cfg := { c with H := c.H.set id o, w := w' }

theorem set_get {H : List AObj} {id k : Nat} {o o' : AObj} (hid : id < H.length) : (H.set id o)[k]? = some o' ↔ (k = id ∧ o' = o) ∨ (k ≠ id ∧ H[k]? = some o') := by
  rw [List.getElem?_set]
  by_cases h : id = k
  · subst h
    rw [if_pos rfl, if_pos hid]
    simp [eq_comm]
  · rw [if_neg h]
    simp [Ne.symm h]

theorem Ext.upd {c : Cfg} {id b : Nat} {o o' : AObj} {w' : World} (h : HR c) (hH : c.H[id]? = some o) (hi : c.ι id = some b) (hl : o.live = true) (hb : o.box = true) (hl' : o'.live = true) (hb' : o'.box = true)
    (hw : ∀ k : Nat, o.wr k) (ht : Turned c.w w' b) : Ext c (c.upd id o' w') := by
  have hid := get_lt hH
  exact {
    fz := fun p v _ hf => by
      have hne : p.block ≠ b := fun e => hf.2 ⟨id, o, hH, by rw [e]; exact hi, hw _⟩
      refine ⟨?_, ?_⟩
      · have h1 := hf.1
        unfold World.cell? at h1 ⊢
        show (match w'.heap[p.block]? with | some (.cells c _ _) => if p.spot.isSome then none else c[p.off]? | _ => none) = _
        rw [ht.other _ hne]
        exact h1
      · rintro ⟨k, x, h1, h2, h3⟩
        rcases (set_get hid).1 h1 with ⟨rfl, rfl⟩ | ⟨_, h1⟩
        · exact hne (by have : c.ι k = some p.block := h2; rw [hi] at this; simpa using this.symm)
        · exact hf.2 ⟨k, x, h1, h2, h3⟩
    bx := fun k b1 ⟨x, h1, h2, h3⟩ => by
      by_cases hk : k = id
      · exact ⟨o', (set_get hid).2 (.inl ⟨hk, rfl⟩), hb', h3⟩
      · exact ⟨x, (set_get hid).2 (.inr ⟨hk, h1⟩), h2, h3⟩
    tl := fun k n z hn => by
      have hk : k ≠ id := fun e => by subst e; rw [hH] at hn; injection hn with hn; subst hn; simp [AObj.box] at hb
      refine .inr ⟨n, (set_get hid).2 (.inr ⟨hk, hn⟩), Nat.le_refl _, fun _ => ⟨rfl, fun b1 arr e h1 h2 => ⟨arr, ?_, rfl⟩⟩⟩
      have : b1 ≠ b := fun e => by subst e; exact hk (h.inj k id b1 _ _ hn hH rfl hl h1 hi)
      exact (ht.other _ this).trans h2
    sz := fun k b' n _ hn => (by
      by_cases e : b' = b
      · subst e; exact ht.room n hn
      · obtain ⟨arr, et, fr, g1, g2⟩ := hn
        exact ⟨arr, et, fr, (ht.other _ e).trans g1, g2⟩)
    dd := fun k ⟨x, h1, h2⟩ => by
      by_cases hk : k = id
      · exact ⟨o', (set_get hid).2 (.inl ⟨hk, rfl⟩), hb'⟩
      · exact ⟨x, (set_get hid).2 (.inr ⟨hk, h1⟩), h2⟩
    size := by show _ ≤ w'.heap.size; rw [ht.size]; exact Nat.le_refl _
    os := ht.os
    tape := ht.tape
    output := ht.output
    hlen := by show _ ≤ (c.H.set id o').length; simp
    outer := fun k hk hn => ht.other k (fun e => by subst e; exact hn id o hH hl hi)
    nw := fun k b1 x hx hlx hix hb1 => by
      rcases (set_get hid).1 hx with ⟨rfl, rfl⟩ | ⟨_, hx⟩
      · exact ⟨_, o, hH, hl, hix⟩
      · exact ⟨_, x, hx, hlx, hix⟩ }

theorem HR.upd {c : Cfg} {id b : Nat} {o o' : AObj} {w' : World} (h : HR c) (hH : c.H[id]? = some o) (hi : c.ι id = some b) (hl : o.live = true) (hx : Ext c (c.upd id o' w')) (ht : Turned c.w w' b)
    (ho : objRel (c.upd id o' w') b o') : HR (c.upd id o' w') := by
  have hid := get_lt hH
  exact {
    dom := fun k b1 hk => by show k < (c.H.set id o').length; simp; exact h.dom k b1 hk
    ex := fun k x hk hbx hlx => by
      rcases (set_get hid).1 hk with ⟨rfl, rfl⟩ | ⟨_, hk⟩
      · exact ⟨b, hi⟩
      · exact h.ex k x hk hbx hlx
    obj := fun k b1 x hk hik hlx => by
      rcases (set_get hid).1 hk with ⟨rfl, rfl⟩ | ⟨hne, hk⟩
      · have : b1 = b := by have h2 : c.ι k = some b1 := hik; rw [hi] at h2; simpa using h2.symm
        subst this
        exact ho
      · have hb1 : b1 ≠ b := fun e => by subst e; exact hne (h.inj k id b1 _ _ hk hH hlx hl hik hi)
        exact (h.obj k b1 x hk hik hlx).mono hx.toExt0 (ht.other _ hb1)
    inj := fun i j b1 x y h1 h2 l1 l2 i1 i2 => by
      rcases (set_get hid).1 h1 with ⟨e1, _⟩ | ⟨_, g1⟩
      · rcases (set_get hid).1 h2 with ⟨e2, _⟩ | ⟨_, g2⟩
        · rw [e1, e2]
        · exact h.inj i j b1 _ _ (by rw [e1]; exact hH) g2 hl l2 i1 i2
      · rcases (set_get hid).1 h2 with ⟨e2, _⟩ | ⟨_, g2⟩
        · exact h.inj i j b1 _ _ g1 (by rw [e2]; exact hH) l1 hl i1 i2
        · exact h.inj i j b1 _ _ g1 g2 l1 l2 i1 i2
    bound := fun k b1 hk => by show b1 < w'.heap.size; rw [ht.size]; exact h.bound k b1 hk }

/-- A box's cells from off on are written. -/
def putA (cs : List AV) (off : Nat) : List AV → List AV
  | [a] => cs.set off a
  | as => cs.take off ++ as ++ cs.drop (off + as.length)

theorem putA_get (cs : List AV) (off : Nat) (as : List AV) (h : off + as.length ≤ cs.length) (k : Nat) : (putA cs off as)[k]? = if off ≤ k ∧ k < off + as.length then as[k - off]? else cs[k]? := by
  have gen : (cs.take off ++ as ++ cs.drop (off + as.length))[k]? = if off ≤ k ∧ k < off + as.length then as[k - off]? else cs[k]? := by
    have hl : (cs.take off).length = off := by rw [List.length_take]; omega
    by_cases h1 : k < off
    · rw [if_neg (by omega), List.append_assoc, List.getElem?_append_left (by omega), List.getElem?_take, if_pos h1]
    · by_cases h2 : k < off + as.length
      · rw [if_pos (by omega), List.getElem?_append_left (by rw [List.length_append]; omega), List.getElem?_append_right (by omega), hl]
      · rw [if_neg (by omega), List.getElem?_append_right (by rw [List.length_append]; omega), List.getElem?_drop, List.length_append, hl]
        congr 1
        omega
  unfold putA
  split
  · rename_i a
    rw [List.getElem?_set]
    simp only [List.length_singleton] at h ⊢
    by_cases hk : off = k
    · subst hk
      rw [if_pos rfl, if_pos (by omega), if_pos (by omega), Nat.sub_self]
      rfl
    · rw [if_neg hk, if_neg (by omega)]
  · exact gen

theorem putA_length (cs : List AV) (off : Nat) (as : List AV) (h : off + as.length ≤ cs.length) : (putA cs off as).length = cs.length := by
  unfold putA
  split
  · simp
  · simp; omega

theorem set_app {H L : List AObj} {j : Nat} {o : AObj} : (H ++ L).set (H.length + j) o = H ++ L.set j o := by
  rw [List.set_append]
  rw [if_neg (by omega), Nat.add_sub_cancel_left]

theorem store_sound {E : Env} {c : Cfg} {id b off ty : Nat} {i : TI} {cs as : List AV} {v : Value} (ho : HR c) (hH : c.H[id]? = some (.cells cs)) (hi : c.ι id = some b) (hti : lookT E.T ty = some i)
    (hr : RelL c as v.cells.toList) (hone : ∀ a ∈ as, a.one = true) (hsz : as.length = i.sz) (hle : off + as.length ≤ cs.length) :
    ∃ w', (Instr.storeAt ty (.pointer (some ⟨b, off, none⟩)) v).run E.P c.w = .ok () w' ∧ Ext c (c.upd id (.cells (putA cs off as)) w') ∧ HR (c.upd id (.cells (putA cs off as)) w') := by
  obtain ⟨arr, e, vs, h1, h2, h3, h4, h5⟩ := box_cells ho hH hi
  have hlen : v.cells.toList.length = as.length := hr.1.symm
  obtain ⟨w', arr', hrun, ht, hb, hs, hk⟩ := run_storeCells (P := E.P) (b := b) (off := off) v.cells.toList 0 c.w arr h1 (by omega) (fun u hu => by
    obtain ⟨k, hk⟩ := List.getElem?_of_mem hu
    have hka : k < as.length := by rw [← hlen]; exact (List.getElem?_eq_some_iff.1 hk).1
    exact (hr.2 k _ u (List.getElem?_eq_getElem hka) hk).one' (hone _ (List.getElem_mem hka)))
  have hx := Ext.upd (o := .cells cs) (o' := .cells (putA cs off as)) (w' := w') ho hH hi rfl rfl rfl rfl (fun _ => trivial) ht
  refine ⟨w', ?_, hx, HR.upd ho hH hi rfl hx ht ?_⟩
  · simp only [Instr.storeAt, Instr.sureAddr, Sem.run_bind, Sem.run_pure, Result.andThen_ok, storeVar, run_sizeOf hti]
    rw [if_neg (by rw [← hsz, ← hlen]; simp)]
    simpa using hrun
  · refine ⟨arr', e, hb, by rw [putA_length _ _ _ hle, hs]; exact h5, fun k a ha => ?_⟩
    rw [putA_get _ _ _ hle] at ha
    have := hk k
    simp only [Nat.add_zero, hlen] at this
    rw [this]
    by_cases hc : off ≤ k ∧ k < off + as.length
    · rw [if_pos hc] at ha ⊢
      obtain ⟨u, hu, hru⟩ := hr.get ha
      exact ⟨u, hu, hru.mono hx.toExt0⟩
    · rw [if_neg hc] at ha ⊢
      obtain ⟨u, hu, hru⟩ := h3.get ha
      exact ⟨u, h4 k u hu, hru.mono hx.toExt0⟩

def allOne : List AV → Bool
  | [] => true
  | a :: as => a.one && allOne as

theorem allOne_mem : ∀ {as : List AV}, allOne as = true → ∀ a ∈ as, a.one = true
  | [], _, a, h => by simp at h
  | x :: xs, h, a, ha => by
    simp only [allOne, Bool.and_eq_true] at h
    rcases List.mem_cons.1 ha with rfl | ha
    · exact h.1
    · exact allOne_mem h.2 a ha

/-- The slice type's element type. -/
def sliceOf (T : List (Nat × TI)) (ty : Nat) : Option (Nat × TI) :=
  match lookT T ty with
  | some i => match i.d with
    | .slice e => match lookT T e with
      | some j => some (e, j)
      | none => none
    | _ => none
  | none => none

theorem sliceOf_spec {E : Env} {ty e : Nat} {j : TI} (h : sliceOf E.T ty = some (e, j)) : E.P.underlying ty = some (.slice e) ∧ lookT E.T e = some j := by
  unfold sliceOf at h
  split at h <;> try simp at h
  rename_i i hi
  split at h <;> try simp at h
  rename_i e' he
  split at h <;> try simp at h
  rename_i j' hj
  obtain ⟨rfl, rfl⟩ := h
  obtain ⟨d, hu, hok⟩ := (Env.ti hi).u
  rw [he] at hok
  have hok' : d = .slice e' := hok
  subst hok'
  exact ⟨hu, hj⟩

def arrayOf (T : List (Nat × TI)) (ty : Nat) : Option (Nat × TI) :=
  match lookT T ty with
  | some i => match i.d with
    | .array n e => match lookT T e with
      | some j => some (n, j)
      | none => none
    | _ => none
  | none => none

theorem arrayOf_spec {E : Env} {ty n : Nat} {j : TI} (h : arrayOf E.T ty = some (n, j)) : ∃ e, E.P.underlying ty = some (.array n e) ∧ lookT E.T e = some j := by
  unfold arrayOf at h
  split at h <;> try simp at h
  rename_i i hi
  split at h <;> try simp at h
  rename_i m e' he
  split at h <;> try simp at h
  rename_i j' hj
  obtain ⟨rfl, rfl⟩ := h
  obtain ⟨d, hu, hok⟩ := (Env.ti hi).u
  rw [he] at hok
  have hok' : d = .array m e' := hok
  subst hok'
  exact ⟨e', hu, hj⟩

section rules
variable {E : Env} {ro : Option Nat} {n : Nat} {K : Kont} {t : Slots} {H L : List AObj} {ops : Array Oper} {o : Oper} {rest : List Oper}

/-- A STORE INTO A BOX OF THE ACTIVATION'S OWN. -/
theorem WpOps.store {ty j off : Nat} {i : TI} {p x : Operand} {cs as : List AV} (hw : wantedA ops t o = some true) (hd : o.dst = none) (hop : o.op = .store ty p x)
    (hp : evalA E.G t p = .ptr H.length j off) (hL : L[j]? = some (.cells cs)) (hx : cellsA (evalA E.G t x) = some as) (hi : lookT E.T ty = some i) (hsz : Nat.beq as.length i.sz = true) (hone : allOne as = true) (hle : Nat.ble (off + as.length) cs.length = true)
    (hk : WpOps E ro n ops rest K t (H ++ L.set j (.cells (putA cs off as)))) : WpOps E ro n ops (o :: rest) K t (H ++ L) :=
  .unit hw hd (fun cc e => by rw [hop] at e; cases e) (fun c a hH ho s => by
    have hr := cellsA_rel (eval_rel ho s x) hx
    have hpr := eval_rel ho s p
    rw [hp] at hpr
    generalize hv : a.eval p = v at hpr
    cases hpr with
    | ptr hb =>
      rename_i b
      obtain ⟨o', h1, h2, h3⟩ := hb
      have hcs : c.H[H.length + j]? = some (.cells cs) := by rw [hH]; exact app_get rfl hL
      obtain ⟨w', hrun, hx, hh⟩ := store_sound ho.hr hcs h3 hi hr (allOne_mem hone) (Nat.eq_of_beq_eq_true hsz) (Nat.le_of_ble_eq_true hle)
      unfold Cfg.upd at hx hh
      rw [hH, set_app] at hx hh
      refine ⟨_, w', ?_, hx, hh⟩
      simp [execOp, hop, hv, hrun]) hk

/-- A store into a box that came in. -/
theorem WpOps.storeOut {ty m j off : Nat} {i : TI} {p x : Operand} {cs as : List AV} (hw : wantedA ops t o = some true) (hd : o.dst = none) (hop : o.op = .store ty p x)
    (hp : evalA E.G t p = .ptr m j off) (hL : H[m + j]? = some (.cells cs)) (hx : cellsA (evalA E.G t x) = some as) (hi : lookT E.T ty = some i) (hsz : Nat.beq as.length i.sz = true) (hone : allOne as = true) (hle : Nat.ble (off + as.length) cs.length = true)
    (hk : WpOps E ro n ops rest K t (H.set (m + j) (.cells (putA cs off as)) ++ L)) : WpOps E ro n ops (o :: rest) K t (H ++ L) :=
  .unit hw hd (fun cc e => by rw [hop] at e; cases e) (fun c a hH ho s => by
    have hr := cellsA_rel (eval_rel ho s x) hx
    have hpr := eval_rel ho s p
    rw [hp] at hpr
    generalize hv : a.eval p = v at hpr
    cases hpr with
    | ptr hb =>
      rename_i b
      obtain ⟨o', h1, h2, h3⟩ := hb
      have hcs : c.H[m + j]? = some (.cells cs) := by rw [hH, List.getElem?_append_left (get_lt hL)]; exact hL
      obtain ⟨w', hrun, hx, hh⟩ := store_sound ho.hr hcs h3 hi hr (allOne_mem hone) (Nat.eq_of_beq_eq_true hsz) (Nat.le_of_ble_eq_true hle)
      unfold Cfg.upd at hx hh
      rw [hH, List.set_append, if_pos (get_lt hL)] at hx hh
      refine ⟨_, w', ?_, hx, hh⟩
      simp [execOp, hop, hv, hrun]) hk

/-- A load from a box that came in. -/
theorem WpOps.loadOut {d ty m j off : Nat} {i : TI} {p : Operand} {cs : List AV} (av : AV) (hw : wantedA ops t o = some true) (hd : o.dst = some d) (hdn : Nat.blt d n = true) (hop : o.op = .load ty p)
    (hp : evalA E.G t p = .ptr m j off) (hL : H[m + j]? = some (.cells cs)) (hi : lookT E.T ty = some i) (hle : Nat.ble (off + i.sz) cs.length = true) (hv : varA i (cs.drop off) = some av)
    (hk : WpOps E ro n ops rest K ((d, av) :: t) (H ++ L)) : WpOps E ro n ops (o :: rest) K t (H ++ L) :=
  .value hw hd hdn (fun cc e => by rw [hop] at e; cases e) (fun c a hH ho s => by
    have hpr := eval_rel ho s p
    rw [hp] at hpr
    generalize hv' : a.eval p = v at hpr
    cases hpr with
    | ptr hb =>
      rename_i b
      obtain ⟨o', h1, h2, h3⟩ := hb
      have hcs : c.H[m + j]? = some (.cells cs) := by rw [hH, List.getElem?_append_left (get_lt hL)]; exact hL
      obtain ⟨r, h4, h5⟩ := load_cells ho.hr hi hcs h3 (Nat.le_of_ble_eq_true hle) hv
      exact ⟨r, c.ι, c.w, by simp [execOp, hop, hv', h4], by rw [← hH]; exact Ext.refl c, by rw [← hH]; exact ho.hr, by rw [← hH]; exact h5⟩) hk

/-- AN ELEMENT OF A SLICE, its address. -/
theorem WpOps.elem {d ty e z : Nat} {j : TI} {x ix : Operand} {tg : Tag} {xs : List (List AV)} {k : IntKind} {i : Int} (l : List AV) (hw : wantedA ops t o = some true) (hd : o.dst = some d) (hdn : Nat.blt d n = true) (hop : o.op = .indexAddr ty x ix)
    (hs : sliceOf E.T ty = some (e, j)) (hx : evalA E.G t x = .sl tg z xs) (hi : evalA E.G t ix = .int k i) (hz : j.sz = z) (hz0 : Nat.blt 0 z = true) (h0 : 0 ≤ i) (hl : xs[i.toNat]? = some l)
    (hk : WpOps E ro n ops rest K ((d, .rp l) :: t) H) : WpOps E ro n ops (o :: rest) K t H :=
  .value hw hd hdn (fun cc e => by rw [hop] at e; cases e) (fun c a hH ho s => by
    obtain ⟨hu, hj⟩ := sliceOf_spec hs
    have hxr := eval_rel ho s x
    rw [hx] at hxr
    have hir := eval_rel ho s ix
    rw [hi] at hir
    generalize hv : a.eval x = v at hxr
    generalize hv2 : a.eval ix = v2 at hir
    cases hir
    cases hxr with
    | sl vs hlen hc hzz ht hf hr =>
      rename_i ad len cap
      have hlt : i.toNat < len := by rw [← hlen]; exact (List.getElem?_eq_some_iff.1 hl).1
      have hll : l.length = z := hzz l (List.mem_of_getElem? hl)
      have hrp : ∀ p, ad = some p → p.spot = none → RelV c (.rp l) (.pointer (some (p.add (i.toNat * z)))) := fun p hp hsp => by
        refine .rp (fun q => vs i.toNat q) (addr_add_spot p hsp _) (fun q hq => ?_) (fun q e he => hr _ _ l e hl he)
        obtain ⟨ad', e1, e2, e3⟩ := hf i.toNat q hlt (by omega)
        rw [hp] at e1
        injection e1 with e1
        subst e1
        rw [addr_add_add p hsp]
        exact e3
      cases ad with
      | none =>
        obtain ⟨ad', e1, _⟩ := hf i.toNat 0 hlt (by simpa using hz0)
        cases e1
      | some p =>
        have hsp : p.spot = none := by
          obtain ⟨ad', e1, e2, _⟩ := hf i.toNat 0 hlt (by simpa using hz0)
          injection e1 with e1
          subst e1
          exact e2
        refine ⟨_, c.ι, c.w, ?_, by rw [← hH]; exact Ext.refl c, by rw [← hH]; exact ho.hr, by rw [← hH]; exact hrp p rfl hsp⟩
        have hb : 0 ≤ i ∧ i < (len : Int) := ⟨h0, by omega⟩
        simp [execOp, hop, hv, hv2, Instr.indexAt, asIntOf, run_underlying hu, hb, run_sizeOf hj, hz]) hk
end rules
end Go.Gp

/- append, make, composite literals, slicing. -/
namespace Go.Gp
open Go.RowKit
set_option linter.unusedVariables false
set_option linter.unusedSimpArgs false

/-! ### The cells of a slice that is read -/
theorem flat_cells {c : Cfg} {z : Nat} : ∀ (ys : List (List AV)) (vs : Nat → Nat → Value), (∀ x ∈ ys, x.length = z) → (∀ (i j : Nat) l e, ys[i]? = some l → l[j]? = some e → RelV c e (vs i j)) →
    ∃ ws, RelL c ys.flatten ws ∧ ws.length = ys.length * z ∧ ∀ (i j : Nat), i < ys.length → j < z → ws[i * z + j]? = some (vs i j)
  | [], vs, _, _ => ⟨[], RelL.nil c, by simp, fun i j h => by simp at h⟩
  | y :: ys, vs, hz, hr => by
    obtain ⟨ws, h1, h2, h3⟩ := flat_cells ys (fun i j => vs (i + 1) j) (fun x hx => hz x (List.mem_cons_of_mem _ hx)) (fun i j l e a b => hr (i + 1) j l e (by simpa using a) b)
    have hy : y.length = z := hz y List.mem_cons_self
    have h0 : RelL c y ((List.range z).map (vs 0)) := by
      refine ⟨by simp [hy], fun j a v ha hv => ?_⟩
      have hj : j < z := by rw [← hy]; exact (List.getElem?_eq_some_iff.1 ha).1
      rw [List.getElem?_map, List.getElem?_range hj] at hv
      simp only [Option.map_some, Option.some.injEq] at hv
      subst hv
      exact hr 0 j y a rfl ha
    refine ⟨(List.range z).map (vs 0) ++ ws, by rw [List.flatten_cons]; exact h0.append h1, by simp [h2, Nat.add_mul]; omega, fun i j hi hj => ?_⟩
    cases i with
    | zero =>
      rw [List.getElem?_append_left (by simp; omega), Nat.zero_mul, Nat.zero_add, List.getElem?_map, List.getElem?_range hj]
      rfl
    | succ i =>
      rw [List.getElem?_append_right (by simp [Nat.add_mul]; omega)]
      have : (i + 1) * z + j - ((List.range z).map (vs 0)).length = i * z + j := by simp [Nat.add_mul]; omega
      rw [this]
      exact h3 i j (by simpa using hi) hj

/-- The cells that an append or a copy takes from its source: the value, in any world that reads alike. -/
def SrcOk (c : Cfg) (z : Nat) (v : Value) (m : Nat) (as : List AV) : Prop :=
  ∃ ws, RelL c as ws ∧ ws.length = m * z ∧ (∀ P w, (Builtin.lenOf v).run P w = .ok m w) ∧ (∀ (P : Program) (w : World), w.heap = c.w.heap → (Builtin.firstCells z m v).run P w = .ok ws.toArray w)

theorem cell?_heap {w w' : World} (h : w'.heap = w.heap) (p : Addr) : w'.cell? p = w.cell? p := by unfold World.cell?; rw [h]

theorem src_sl {c : Cfg} {t : Tag} {z : Nat} {ys : List (List AV)} {v : Value} (hr : RelV c (.sl t z ys) v) : SrcOk c z v ys.length ys.flatten := by
  cases hr with
  | sl vs hl hc hz ht hf hr =>
    rename_i a len cap
    subst hl
    obtain ⟨ws, h1, h2, h3⟩ := flat_cells ys vs hz hr
    refine ⟨ws, h1, h2, fun P w => by simp [Builtin.lenOf], fun P w hw => ?_⟩
    by_cases h0 : ys.length * z = 0
    · have : ws = [] := List.length_eq_zero_iff.1 (by omega)
      subst this
      cases a with
      | none => simp [Builtin.firstCells]
      | some p => simp [Builtin.firstCells, loadCells, h0, loadCellsFrom]
    · have hpos : 0 < ys.length ∧ 0 < z := ⟨Nat.pos_of_ne_zero (fun e => by simp [e] at h0), Nat.pos_of_ne_zero (fun e => by simp [e] at h0)⟩
      obtain ⟨p, e1, _, _⟩ := hf 0 0 hpos.1 hpos.2
      subst e1
      have hca : CellsAt w p ws := fun k u hk => by
        have hlt : k < ys.length * z := by rw [← h2]; exact (List.getElem?_eq_some_iff.1 hk).1
        have hi : k / z < ys.length := Nat.div_lt_of_lt_mul (by rw [Nat.mul_comm]; exact hlt)
        have hj : k % z < z := Nat.mod_lt _ hpos.2
        have hk' : k / z * z + k % z = k := by rw [Nat.mul_comm]; exact Nat.div_add_mod k z
        have h4 := h3 _ _ hi hj
        rw [hk', hk] at h4
        injection h4 with h4
        subst h4
        obtain ⟨ad, e2, _, e3⟩ := hf _ _ hi hj
        injection e2 with e2
        subst e2
        rw [hk'] at e3
        rw [cell?_heap hw]
        exact e3.1
      have := run_loadCells (P := P) hca
      rw [h2] at this
      simpa [Builtin.firstCells] using this

def strCells (s : List UInt8) : List AV := s.map fun b => .int .u8 b.toNat

theorem src_str {c : Cfg} {s : List UInt8} {v : Value} (hr : RelV c (.str s) v) : SrcOk c 1 v s.length (strCells s) := by
  cases hr
  refine ⟨s.map fun b => .int .u8 b.toNat, ⟨by simp [strCells], fun i a v ha hv => ?_⟩, by simp, fun P w => ?_, fun P w _ => ?_⟩
  · simp only [strCells, List.getElem?_map] at ha hv
    cases hs : s[i]? with
    | none => rw [hs] at ha; simp at ha
    | some b => rw [hs] at ha hv; simp at ha hv; subst ha; subst hv; exact .int
  · simp [Builtin.lenOf]
    rfl
  · have e : ((ByteArray.mk s.toArray).extract 0 s.length).data = s.toArray := by
      simp [ByteArray.extract, ByteArray.copySlice]
    simp only [Builtin.firstCells, e, Sem.run_pure]
    congr 1
    simp

/-- What is appended, as abstract elements. -/
def srcA (z : Nat) : AV → Option (List (List AV))
  | .sl _ z' ys => bif Nat.beq z' z || ys.isEmpty then some ys else none
  | .str s => bif Nat.beq z 1 then some (s.map fun b => [.int .u8 b.toNat]) else none
  | _ => none

theorem srcA_ok {c : Cfg} {z : Nat} {x : AV} {v : Value} {ys : List (List AV)} (h : srcA z x = some ys) (hr : RelV c x v) : SrcOk c z v ys.length ys.flatten ∧ ∀ y ∈ ys, y.length = z := by
  unfold srcA at h
  split at h
  · rename_i t z' ys'
    cases hb : (Nat.beq z' z || ys'.isEmpty) with
    | false => rw [hb] at h; simp at h
    | true =>
      rw [hb] at h
      simp only [cond_true, Option.some.injEq] at h
      subst h
      simp only [Bool.or_eq_true] at hb
      rcases hb with hb | hb
      · have := Nat.eq_of_beq_eq_true hb
        subst this
        refine ⟨src_sl hr, ?_⟩
        cases hr with
        | sl vs hl hc hz ht hf hr => exact hz
      · have he : ys' = [] := List.isEmpty_iff.1 hb
        subst he
        refine ⟨?_, by simp⟩
        cases hr with
        | sl vs hl hc hz ht hf hr =>
          rename_i a len cap
          have hl : len = 0 := by simpa using hl.symm
          subst hl
          refine ⟨[], RelL.nil c, by simp, fun P w => by simp [Builtin.lenOf], fun P w _ => ?_⟩
          cases a with
          | none => simp [Builtin.firstCells]
          | some p => simp [Builtin.firstCells, loadCells, loadCellsFrom]
  · rename_i s
    cases hb : Nat.beq z 1 with
    | false => rw [hb] at h; simp at h
    | true =>
      have hz := Nat.eq_of_beq_eq_true hb
      subst hz
      rw [hb] at h
      simp only [cond_true, Option.some.injEq] at h
      subst h
      refine ⟨?_, by simp⟩
      have := src_str hr
      have e : (s.map fun b => [AV.int .u8 b.toNat]).flatten = strCells s := by
        unfold strCells
        clear this hr
        induction s with
        | nil => rfl
        | cons b s ih => simp [ih]
      rw [e]
      simpa using this
  · simp at h

/-! ### The run of an append -/
theorem notInt {d : TypeDesc} (h : ∀ k, d ≠ .int k) : (match d with | .int _ => true | _ => false) = false := by
  cases d <;> first | rfl | exact absurd rfl (h _)

section run
variable {P : Program} {w : World}

theorem run_append_in {t tx ty e : TypeId} {i : TypeInfo} {d : TypeDesc} (ht : P.underlying t = some (.slice e)) (hx : P.underlying tx = some d) (hd0 : ∀ k, d ≠ .int k) (hi : P.info? e = some i)
    {base : Option Addr} {sLen sCap m : Nat} {v : Value} {news : List Value} (hl : (Builtin.lenOf v).run P w = .ok m w) (hn : (Builtin.firstCells i.size m v).run P w = .ok news.toArray w) (hroom : sLen + m ≤ sCap) :
    (Builtin.append_ #[t, tx] ty #[.slice base sLen sCap, v]).run P w = (match base with
      | some a => ((storeCells (a.add (sLen * i.size)) news).run P w).andThen fun _ w' => .ok (.slice base (sLen + m) sCap) w'
      | none => .ok (.slice none (sLen + m) sCap) w) := by
  have hd := notInt hd0
  cases base with
  | none => simp [Builtin.append_, run_underlying ht, run_underlying hx, hd, sizeOf, typeInfo, hi, hl, hroom, hn]
  | some a => simp [Builtin.append_, run_underlying ht, run_underlying hx, hd, sizeOf, typeInfo, hi, hl, hroom, hn]

theorem run_append_out {t tx ty e : TypeId} {i : TypeInfo} {d : TypeDesc} {z : Value} (ht : P.underlying t = some (.slice e)) (hx : P.underlying tx = some d) (hd0 : ∀ k, d ≠ .int k) (hi : P.info? e = some i) (hz : i.zero = some z)
    {base : Option Addr} {sLen sCap m : Nat} {v : Value} {olds news : List Value} (hl : (Builtin.lenOf v).run P w = .ok m w) (hn : (Builtin.firstCells i.size m v).run P w.drew = .ok news.toArray w.drew)
    (ho : (Builtin.firstCells i.size sLen (.slice base sLen sCap)).run P w.drew = .ok olds.toArray w.drew)
    (hg : sCap < sLen + m) (hb : 0 < i.bytes) (hfit : (sLen + m) * i.bytes ≤ 140737488355328) :
    ∃ cap rest, sLen + m ≤ cap ∧ cap ≤ 9223372036854775807 ∧ rest.length = (cap - (sLen + m)) * z.cells.size ∧ (Builtin.append_ #[t, tx] ty #[.slice base sLen sCap, v]).run P w =
      .ok (.slice (some ⟨w.heap.size, 0, none⟩) (sLen + m) cap) (w.drew.alloc (.cells (olds ++ news ++ rest).toArray e)) := by
  have hle : sLen + m ≤ 140737488355328 := Nat.le_trans (Nat.le_mul_of_pos_right _ hb) hfit
  have h63' : ¬ (9223372036854775807 < ((sLen : Int) + (m : Int))) := by omega
  have h48 := growslice_fits hg hfit
  have h48' : ¬ (281474976710656 < Builtin.nextslicecap (sLen + m) sCap * i.bytes) := by omega
  refine ⟨grownCap w (sLen + m) sCap e, (Builtin.zeroCells z.cells (grownCap w (sLen + m) sCap e - (sLen + m))).toList, ?_, ?_, ?_, ?_⟩
  · simp only [grownCap, Question.cut]; omega
  · simp only [grownCap, Question.cut]
    have := Nat.mod_lt (w.tape w.drawn (.appendCap (sLen + m) sCap e)) (show 0 < 2 ^ 63 - (sLen + m) by omega)
    omega
  · simp [size_zeroCells]
  · have hn' : ¬ (sLen + m ≤ sCap) := by omega
    have hd := notInt hd0
    simp [Builtin.append_, run_underlying ht, run_underlying hx, hd, sizeOf, typeInfo, zeroValue, hi, hz, hl, hn', h63', h48', Question.forced, hn, ho, newRow, grownCap]
    congr 2
    simp [List.append_assoc]
end run

theorem flatten_get {z : Nat} : ∀ {xs : List (List AV)} {i j : Nat} {l : List AV} {e : AV}, (∀ x ∈ xs, x.length = z) → xs[i]? = some l → l[j]? = some e → xs.flatten[i * z + j]? = some e
  | [], i, j, l, e, _, h, _ => by simp at h
  | x :: xs, 0, j, l, e, hz, h, hj => by
    simp only [List.getElem?_cons_zero, Option.some.injEq] at h
    subst h
    rw [Nat.zero_mul, Nat.zero_add, List.flatten_cons, List.getElem?_append_left (List.getElem?_eq_some_iff.1 hj).1]
    exact hj
  | x :: xs, i + 1, j, l, e, hz, h, hj => by
    have hx : x.length = z := hz x List.mem_cons_self
    rw [List.flatten_cons, List.getElem?_append_right (by rw [hx, Nat.add_mul]; omega), hx, show (i + 1) * z + j - z = i * z + j from by rw [Nat.add_mul]; omega]
    exact flatten_get (fun y hy => hz y (List.mem_cons_of_mem _ hy)) (by simpa using h) hj

theorem flatten_length {z : Nat} : ∀ {xs : List (List AV)}, (∀ x ∈ xs, x.length = z) → xs.flatten.length = xs.length * z
  | [], _ => by simp
  | x :: xs, hz => by
    rw [List.flatten_cons, List.length_append, hz x List.mem_cons_self, flatten_length (fun y hy => hz y (List.mem_cons_of_mem _ hy)), List.length_cons, Nat.add_mul]
    omega

/-- A slice that begins a block. -/
theorem mk_sl {c : Cfg} {z b len cap : Nat} {xs : List (List AV)} {ws : List Value} {t : Tag} (hl : xs.length = len) (hc : len ≤ cap) (hz : ∀ x ∈ xs, x.length = z) (ht : tagOk c t z (some ⟨b, 0, none⟩) len cap)
    (hr : RelL c xs.flatten ws) (hf : ∀ (k : Nat) v, ws[k]? = some v → Fz c ⟨b, k, none⟩ v) : RelV c (.sl t z xs) (.slice (some ⟨b, 0, none⟩) len cap) := by
  have hwl : ws.length = len * z := by rw [← hr.1, flatten_length hz, hl]
  refine .sl (fun i j => (ws[i * z + j]?).getD undef) hl hc hz ht (fun i j hi hj => ?_) (fun i j l e h1 h2 => ?_)
  · refine ⟨_, rfl, rfl, ?_⟩
    have hlt : i * z + j < ws.length := by
      rw [hwl]
      calc i * z + j < i * z + z := by omega
        _ = (i + 1) * z := by rw [Nat.add_mul]; omega
        _ ≤ len * z := Nat.mul_le_mul_right _ hi
    have e1 : ws[i * z + j]? = some ws[i * z + j] := List.getElem?_eq_getElem hlt
    rw [e1]
    have := hf _ _ e1
    have e2 : (⟨b, 0, none⟩ : Addr).add (i * z + j) = ⟨b, i * z + j, none⟩ := by
      unfold Addr.add
      split
      · rename_i h0; rw [h0]
      · simp
    rw [e2]
    exact this
  · have h3 := flatten_get hz h1 h2
    obtain ⟨v, hv, hrv⟩ := hr.get h3
    simp only [hv, Option.getD_some]
    exact hrv

/-- Only the count of draws has gone on. -/
def Cfg.drew (c : Cfg) : Cfg := { c with w := c.w.drew }
theorem Ext.drew (c : Cfg) : Ext c c.drew := by
  have h := Ext.refl c
  exact { fz := fun p v _ hf => ⟨hf.1, hf.2⟩, bx := h.bx, tl := h.tl, dd := h.dd, sz := h.sz, size := Nat.le_refl _, os := rfl, tape := rfl, output := rfl, hlen := h.hlen, outer := fun _ _ _ => rfl, nw := h.nw }
theorem HR.drew {c : Cfg} (h : HR c) : HR c.drew where
  dom := h.dom
  ex := h.ex
  obj := fun id b o ho hi hl => (h.obj id b o ho hi hl).mono (Ext.drew c).toExt0 rfl
  inj := h.inj
  bound := h.bound

theorem new_fz {c : Cfg} (h : HR c) {arr : Array Value} {e : TypeId} {k : Nat} {v : Value} (hv : arr[k]? = some v) : Fz (c.push (.cells arr e)) ⟨c.w.heap.size, k, none⟩ v := by
  refine ⟨cell?_of (heap_alloc_eq _ _) hv, ?_⟩
  rintro ⟨id, o, h1, h2, h3⟩
  have := h.bound id _ h2
  simp at this

/-- The elements of a slice value, as an append reads them. -/
theorem olds_of {c : Cfg} {t : Tag} {z len cap : Nat} {xs : List (List AV)} {a : Option Addr} (hr : RelV c (.sl t z xs) (.slice a len cap)) :
    xs.length = len ∧ (∀ x ∈ xs, x.length = z) ∧ len ≤ cap ∧ tagOk c t z a len cap ∧ SrcOk c z (.slice a len cap) len xs.flatten := by
  have h := src_sl hr
  cases hr with
  | sl vs hl hc hz ht hf hr => exact ⟨hl, hz, hc, ht, by rw [← hl]; rw [← hl] at h; exact h⟩

/-- An append to a slice without spare places: what comes of it is nobody's to write. -/
theorem app_full {E : Env} {c : Cfg} {ty tx e : Nat} {ty0 : TypeId} {j ix : TI} {xs ys : List (List AV)} {v x : Value} (ho : HR c) (hs : sliceOf E.T ty = some (e, j)) (hx : lookT E.T tx = some ix) (hd : ∀ k, ix.d ≠ .int k)
    (hb : 0 < j.bytes) (hr : RelV c (.sl .full j.sz xs) v) (hsrc : SrcOk c j.sz x ys.length ys.flatten) (hyz : ∀ y ∈ ys, y.length = j.sz) (hfit : (xs.length + ys.length) * j.bytes ≤ 140737488355328) :
    ∃ v' w', (Builtin.append_ #[ty, tx] ty0 #[v, x]).run E.P c.w = .ok v' w' ∧ Ext c ⟨c.ι, c.H, w'⟩ ∧ HR ⟨c.ι, c.H, w'⟩ ∧ RelV ⟨c.ι, c.H, w'⟩ (.sl .no j.sz (xs ++ ys)) v' := by
  obtain ⟨hu, hj⟩ := sliceOf_spec hs
  obtain ⟨dx, hux, hokx⟩ := (Env.ti hx).u
  have hdx : ∀ k, dx ≠ .int k := by
    intro k e
    subst e
    cases hd' : ix.d <;> rw [hd'] at hokx <;> simp [TD.ok] at hokx
    exact hd _ hd'
  obtain ⟨info, hinfo, hi⟩ := Option.map_eq_some_iff.1 (Env.ti hj).info
  simp only [Prod.mk.injEq] at hi
  obtain ⟨hi1, hi2, hi3⟩ := hi
  cases hv : v with
  | slice a len cap =>
    subst hv
    obtain ⟨hl, hz, hc, ht, olds, ho1, ho2, _, ho4⟩ := olds_of hr
    obtain ⟨news, hn1, hn2, hn3, hn4⟩ := hsrc
    have hcap : cap = len := ht
    subst hcap
    by_cases hm : ys.length = 0
    · have hy : ys = [] := List.length_eq_zero_iff.1 hm
      subst hy
      have hn0 : news = [] := List.length_eq_zero_iff.1 (by simpa using hn2)
      subst hn0
      refine ⟨.slice a cap cap, c.w, ?_, Ext.refl c, ho, by rw [List.append_nil]; exact hr.forget⟩
      rw [run_append_in hu hux hdx hinfo (m := 0) (news := []) (hn3 _ _) (by rw [hi2]; exact hn4 _ _ rfl) (by omega)]
      cases a with
      | none => rfl
      | some p => simp [storeCells]
    · obtain ⟨cap', rest, h1, h2, h3, h4⟩ := run_append_out (P := E.P) (w := c.w) (t := ty) (tx := tx) (ty := ty0) (e := e) (z := j.zero) (base := a) (sLen := cap) (sCap := cap) (v := x) (olds := olds) (news := news) hu hux hdx hinfo hi1
        (hn3 _ _) (by rw [hi2]; exact hn4 _ _ rfl) (by rw [hi2]; exact ho4 _ _ rfl) (by omega) (by omega) (by rw [hi3, ← hl]; exact hfit)
      have hx1 := (Ext.drew c).trans (Ext.push c.drew (.cells (olds ++ news ++ rest).toArray e) ho.drew)
      refine ⟨_, _, h4, hx1, ho.drew.push _, ?_⟩
      refine mk_sl (c := (c.drew).push (.cells (olds ++ news ++ rest).toArray e)) (ws := olds ++ news) (by rw [List.length_append, hl]) h1 ?_ trivial ?_ (fun k u hk => ?_)
      · intro y hy
        rcases List.mem_append.1 hy with hy | hy
        · exact hz y hy
        · exact hyz y hy
      · rw [List.flatten_append]
        exact (ho1.append hn1).mono hx1.toExt0
      · refine new_fz (c := c.drew) ho.drew ?_
        rw [List.getElem?_toArray, List.getElem?_append_left (List.getElem?_eq_some_iff.1 hk).1]
        exact hk
  | _ => subst hv; cases hr
end Go.Gp

/- append to a row that the activation owns. -/
namespace Go.Gp
open Go.RowKit
set_option linter.unusedVariables false
set_option linter.unusedSimpArgs false

theorem ext_info {E : Env} {e : Nat} {j : TI} (hj : lookT E.T e = some j) : ∃ info, E.P.info? e = some info ∧ info.zero = some j.zero ∧ info.size = j.sz ∧ info.bytes = j.bytes := by
  obtain ⟨info, hinfo, hi⟩ := Option.map_eq_some_iff.1 (Env.ti hj).info
  simp only [Prod.mk.injEq] at hi
  exact ⟨info, hinfo, hi⟩

theorem not_int_of {E : Env} {tx : Nat} {ix : TI} (hx : lookT E.T tx = some ix) (hd : ∀ k, ix.d ≠ .int k) : ∃ dx, E.P.underlying tx = some dx ∧ ∀ k, dx ≠ .int k := by
  obtain ⟨dx, hux, hokx⟩ := (Env.ti hx).u
  refine ⟨dx, hux, fun k e => ?_⟩
  subst e
  cases hd' : ix.d <;> rw [hd'] at hokx <;> simp [TD.ok] at hokx
  exact hd _ hd'

theorem set_self {H : List AObj} {i : Nat} {o : AObj} (h : H[i]? = some o) : H.set i o = H := by
  apply List.ext_getElem?
  intro k
  rw [List.getElem?_set]
  split
  · rename_i e
    subst e
    rw [h]
    rw [if_pos (get_lt h)]
  · rfl

/-- A tail's watermark goes up, in place. -/
theorem Ext.tailIn {c : Cfg} {id b len n' z : Nat} {arr arr' : Array Value} {e : TypeId} {w' : World} (h : HR c) (hH : c.H[id]? = some (.tail len z)) (hi : c.ι id = some b) (hw : c.w.heap[b]? = some (.cells arr e (0, 0)))
    (ht : Turned c.w w' b) (hw' : w'.heap[b]? = some (.cells arr' e (0, 0))) (hsz : arr'.size = arr.size) (hold : ∀ k, k < len * z → arr'[k]? = arr[k]?) (hle : len ≤ n') : Ext c (c.upd id (.tail n' z) w') := by
  have hid := get_lt hH
  exact {
    fz := fun p v _ hf => by
      by_cases hpb : p.block = b
      · have hlt : p.off < len * z := by
          rcases Nat.lt_or_ge p.off (len * z) with h1 | h1
          · exact h1
          · exact absurd ⟨id, .tail len z, hH, by rw [hpb]; exact hi, h1⟩ hf.2
        refine ⟨?_, ?_⟩
        · have h1 := hf.1
          unfold World.cell? at h1 ⊢
          rw [hpb, hw] at h1
          show (match w'.heap[p.block]? with | some (.cells c _ _) => if p.spot.isSome then none else c[p.off]? | _ => none) = _
          rw [hpb, hw']
          simp only at h1 ⊢
          rw [hold _ hlt]
          exact h1
        · rintro ⟨k, x, h1, h2, h3⟩
          rcases (set_get hid).1 h1 with ⟨rfl, rfl⟩ | ⟨hne, h1⟩
          · have h3' : n' * z ≤ p.off := h3
            have := Nat.mul_le_mul_right z hle
            omega
          · have h2' : c.ι k = some p.block := h2
            refine hf.2 ⟨k, x, h1, h2', h3⟩
      · refine ⟨?_, ?_⟩
        · have h1 := hf.1
          unfold World.cell? at h1 ⊢
          show (match w'.heap[p.block]? with | some (.cells c _ _) => if p.spot.isSome then none else c[p.off]? | _ => none) = _
          rw [ht.other _ hpb]
          exact h1
        · rintro ⟨k, x, h1, h2, h3⟩
          rcases (set_get hid).1 h1 with ⟨rfl, rfl⟩ | ⟨_, h1⟩
          · exact hpb (by have : c.ι k = some p.block := h2; rw [hi] at this; simpa using this.symm)
          · exact hf.2 ⟨k, x, h1, h2, h3⟩
    bx := fun k b1 ⟨x, h1, h2, h3⟩ => by
      have hk : k ≠ id := fun e => by subst e; rw [hH] at h1; injection h1 with h1; subst h1; simp [AObj.box] at h2
      exact ⟨x, (set_get hid).2 (.inr ⟨hk, h1⟩), h2, h3⟩
    tl := fun k n z' hn => by
      by_cases hk : k = id
      · subst hk
        rw [hH] at hn
        injection hn with hn
        injection hn with hn1 hn2
        subst hn1; subst hn2
        refine .inr ⟨n', (set_get hid).2 (.inl ⟨rfl, rfl⟩), hle, fun _ => ⟨rfl, fun b1 a1 e1 h1 h2 => ?_⟩⟩
        rw [hi] at h1
        injection h1 with h1
        subst h1
        rw [hw] at h2
        injection h2 with h2
        injection h2 with h2 h3 h4
        subst h2; subst h3
        exact ⟨arr', hw', hsz⟩
      · refine .inr ⟨n, (set_get hid).2 (.inr ⟨hk, hn⟩), Nat.le_refl _, fun _ => ⟨rfl, fun b1 a1 e1 h1 h2 => ⟨a1, ?_, rfl⟩⟩⟩
        have : b1 ≠ b := fun e => by subst e; exact hk (h.inj k id b1 _ _ hn hH rfl rfl h1 hi)
        exact (ht.other _ this).trans h2
    sz := fun k b' n _ hn => (by
      by_cases e : b' = b
      · subst e; exact ht.room n hn
      · obtain ⟨arr, et, fr, g1, g2⟩ := hn
        exact ⟨arr, et, fr, (ht.other _ e).trans g1, g2⟩)
    dd := fun k ⟨x, h1, h2⟩ => by
      have hk : k ≠ id := fun e => by subst e; rw [hH] at h1; injection h1 with h1; subst h1; cases h2
      exact ⟨x, (set_get hid).2 (.inr ⟨hk, h1⟩), h2⟩
    size := by show _ ≤ w'.heap.size; rw [ht.size]; exact Nat.le_refl _
    os := ht.os
    tape := ht.tape
    output := ht.output
    hlen := by show _ ≤ (c.H.set id _).length; simp
    outer := fun k hk hn => ht.other k (fun e => by subst e; exact hn id _ hH rfl hi)
    nw := fun k b1 x hx hlx hix hb1 => by
      rcases (set_get hid).1 hx with ⟨rfl, rfl⟩ | ⟨_, hx⟩
      · exact ⟨_, _, hH, rfl, hix⟩
      · exact ⟨_, x, hx, hlx, hix⟩ }

/-- A tail's row moves into a new block. -/
def Cfg.moveTail (c : Cfg) (id n' z : Nat) (ob : Obj) : Cfg := { ι := fun k => if k = id then some c.w.heap.size else c.ι k, H := c.H.set id (.tail n' z), w := c.w.alloc ob }

theorem moveTail_ι {c : Cfg} {id n' z k b : Nat} {ob : Obj} : (c.moveTail id n' z ob).ι k = some b ↔ (k = id ∧ b = c.w.heap.size) ∨ (k ≠ id ∧ c.ι k = some b) := by
  show (if k = id then some c.w.heap.size else c.ι k) = some b ↔ _
  by_cases hk : k = id
  · rw [if_pos hk]
    constructor
    · intro h; injection h with h; exact .inl ⟨hk, h.symm⟩
    · rintro (⟨_, h⟩ | ⟨h, _⟩)
      · rw [h]
      · exact absurd hk h
  · rw [if_neg hk]
    constructor
    · intro h; exact .inr ⟨hk, h⟩
    · rintro (⟨h, _⟩ | ⟨_, h⟩)
      · exact absurd h hk
      · exact h

theorem Ext.moveTail {c : Cfg} {id len n' z : Nat} {ob : Obj} (h : HR c) (hH : c.H[id]? = some (.tail len z)) (hlt : len < n') : Ext c (c.moveTail id n' z ob) := by
  have hid := get_lt hH
  exact {
    fz := fun p v hp hf => by
      refine ⟨cell?_alloc_lt _ _ hf.1, ?_⟩
      rintro ⟨k, x, h1, h2, h3⟩
      rcases moveTail_ι.1 h2 with ⟨rfl, h2⟩ | ⟨hne, h2⟩
      · omega
      · rcases (set_get hid).1 h1 with ⟨e, _⟩ | ⟨_, h1⟩
        · exact hne e
        · exact hf.2 ⟨k, x, h1, h2, h3⟩
    bx := fun k b1 ⟨x, h1, h2, h3⟩ => by
      have hk : k ≠ id := fun e => by subst e; rw [hH] at h1; injection h1 with h1; subst h1; simp [AObj.box] at h2
      exact ⟨x, (set_get hid).2 (.inr ⟨hk, h1⟩), h2, moveTail_ι.2 (.inr ⟨hk, h3⟩)⟩
    tl := fun k n z' hn => by
      by_cases hk : k = id
      · subst hk
        rw [hH] at hn
        injection hn with hn
        injection hn with hn1 hn2
        subst hn1; subst hn2
        exact .inr ⟨n', (set_get hid).2 (.inl ⟨rfl, rfl⟩), by omega, fun e => by omega⟩
      · refine .inr ⟨n, (set_get hid).2 (.inr ⟨hk, hn⟩), Nat.le_refl _, fun _ => ⟨?_, fun b1 a1 e1 h1 h2 => ⟨a1, (heap_alloc_lt _ _ (block_lt h2)).trans h2, rfl⟩⟩⟩
        show (if k = id then some c.w.heap.size else c.ι k) = c.ι k
        rw [if_neg hk]
    sz := fun _ _ _ _ ⟨arr, e, fr, h1, h2⟩ => ⟨arr, e, fr, (heap_alloc_lt _ _ (Array.getElem?_eq_some_iff.1 h1).1).trans h1, h2⟩
    dd := fun k ⟨x, h1, h2⟩ => by
      have hk : k ≠ id := fun e => by subst e; rw [hH] at h1; injection h1 with h1; subst h1; cases h2
      exact ⟨x, (set_get hid).2 (.inr ⟨hk, h1⟩), h2⟩
    size := by show _ ≤ (c.w.alloc ob).heap.size; rw [heap_alloc_size]; omega
    os := rfl
    tape := rfl
    output := rfl
    hlen := by show _ ≤ (c.H.set id _).length; simp
    outer := fun b hb _ => heap_alloc_lt _ _ hb
    nw := fun k b1 x hx hlx hix hb1 => by
      rcases moveTail_ι.1 hix with ⟨rfl, h2⟩ | ⟨hne, h2⟩
      · omega
      · rcases (set_get hid).1 hx with ⟨e, _⟩ | ⟨_, hx⟩
        · exact absurd e hne
        · exact ⟨_, x, hx, hlx, h2⟩ }

theorem HR.moveTail {c : Cfg} {id len n' z : Nat} {arr : Array Value} {e : TypeId} (h : HR c) (hH : c.H[id]? = some (.tail len z)) (hlt : len < n') (hsz : n' * z ≤ arr.size) : HR (c.moveTail id n' z (.cells arr e)) := by
  have hid := get_lt hH
  have hx := Ext.moveTail (ob := .cells arr e) h hH hlt
  exact {
    dom := fun k b hk => by
      show k < (c.H.set id _).length
      rw [List.length_set]
      rcases moveTail_ι.1 hk with ⟨rfl, _⟩ | ⟨_, h2⟩
      · exact hid
      · exact h.dom k b h2
    ex := fun k x hk hbx hlx => by
      rcases (set_get hid).1 hk with ⟨rfl, rfl⟩ | ⟨hne, hk⟩
      · exact ⟨_, moveTail_ι.2 (.inl ⟨rfl, rfl⟩)⟩
      · obtain ⟨b, hb⟩ := h.ex k x hk hbx hlx
        exact ⟨b, moveTail_ι.2 (.inr ⟨hne, hb⟩)⟩
    obj := fun k b x hk hik hlx => by
      rcases moveTail_ι.1 hik with ⟨rfl, rfl⟩ | ⟨hne, h2⟩
      · rcases (set_get hid).1 hk with ⟨_, rfl⟩ | ⟨hne, _⟩
        · exact ⟨arr, e, heap_alloc_eq _ _, hsz⟩
        · exact absurd rfl hne
      · rcases (set_get hid).1 hk with ⟨e1, _⟩ | ⟨_, hk⟩
        · exact absurd e1 hne
        · exact (h.obj k b x hk h2 hlx).mono hx.toExt0 (heap_alloc_lt _ _ (h.bound k b h2))
    inj := fun i j b x y h1 h2 l1 l2 i1 i2 => by
      rcases moveTail_ι.1 i1 with ⟨e1, g1⟩ | ⟨n1, g1⟩
      · rcases moveTail_ι.1 i2 with ⟨e2, g2⟩ | ⟨n2, g2⟩
        · rw [e1, e2]
        · have := h.bound _ _ g2; omega
      · rcases moveTail_ι.1 i2 with ⟨e2, g2⟩ | ⟨n2, g2⟩
        · have := h.bound _ _ g1; omega
        · rcases (set_get hid).1 h1 with ⟨e1, _⟩ | ⟨_, k1⟩
          · exact absurd e1 n1
          · rcases (set_get hid).1 h2 with ⟨e2, _⟩ | ⟨_, k2⟩
            · exact absurd e2 n2
            · exact h.inj i j b _ _ k1 k2 l1 l2 g1 g2
    bound := fun k b hk => by
      show b < (c.w.alloc _).heap.size
      rw [heap_alloc_size]
      rcases moveTail_ι.1 hk with ⟨_, rfl⟩ | ⟨_, h2⟩
      · omega
      · have := h.bound _ _ h2; omega }

/-- An append to the row of an owned tail. -/
theorem app_rowM {E : Env} {c : Cfg} {ty tx e m q : Nat} {ty0 : TypeId} {j ix : TI} {xs ys : List (List AV)} {v x : Value} (ho : HR c) (hs : sliceOf E.T ty = some (e, j)) (hx : lookT E.T tx = some ix) (hd : ∀ k, ix.d ≠ .int k)
    (hb : 0 < j.bytes) (hz0 : 0 < j.sz) (hone : ∀ y ∈ ys, ∀ a ∈ y, a.one = true) (hzs : j.zero.cells.size = j.sz) (hH : c.H[m + q]? = some (.tail xs.length j.sz)) (hr : RelV c (.sl (.row m q) j.sz xs) v) (hsrc : SrcOk c j.sz x ys.length ys.flatten) (hyz : ∀ y ∈ ys, y.length = j.sz)
    (hfit : (xs.length + ys.length) * j.bytes ≤ 140737488355328) (mn : Bool) (hmn : mn = true → ys ≠ []) :
    ∃ v' ι' w', (Builtin.append_ #[ty, tx] ty0 #[v, x]).run E.P c.w = .ok v' w' ∧ Ext c ⟨ι', c.H.set (m + q) (.tail (xs.length + ys.length) j.sz), w'⟩ ∧ HR ⟨ι', c.H.set (m + q) (.tail (xs.length + ys.length) j.sz), w'⟩ ∧
      RelV ⟨ι', c.H.set (m + q) (.tail (xs.length + ys.length) j.sz), w'⟩ (.sl (bif mn then .mine m q else .row m q) j.sz (xs ++ ys)) v' := by
  obtain ⟨hu, hj⟩ := sliceOf_spec hs
  obtain ⟨dx, hux, hdx⟩ := not_int_of hx hd
  obtain ⟨info, hinfo, hi1, hi2, hi3⟩ := ext_info hj
  have hid := get_lt hH
  cases hv : v with
  | slice a len cap =>
    subst hv
    obtain ⟨hl, hz, hc, ht, olds, ho1, ho2, _, ho4⟩ := olds_of hr
    obtain ⟨news, hn1, hn2, hn3, hn4⟩ := hsrc
    subst hl
    have hsame : ∀ H' : List AObj, H' = c.H.set (m + q) (.tail (xs.length + 0) j.sz) → H' = c.H := fun H' e => by
      rw [e, Nat.add_zero]
      exact set_self hH
    have hat : tailAt c (m + q) j.sz a xs.length cap := by
      rcases ht with ⟨x, hx1, hx2⟩ | ⟨n, hn, hle, hat⟩
      · rw [hH] at hx1; injection hx1 with hx1; subst hx1; cases hx2
      · rw [hH] at hn
        injection hn with hn
        injection hn with hn
        exact hat hn
    by_cases hm : ys.length = 0
    · have hy : ys = [] := List.length_eq_zero_iff.1 hm
      subst hy
      have hmf : mn = false := by cases mn with | false => rfl | true => exact absurd rfl (hmn rfl)
      subst hmf
      have hn0 : news = [] := List.length_eq_zero_iff.1 (by simpa using hn2)
      subst hn0
      have hs0 := hsame _ rfl
      simp only [List.length_nil, List.append_nil]
      rw [hs0]
      refine ⟨.slice a xs.length cap, c.ι, c.w, ?_, Ext.refl c, ho, hr⟩
      rw [run_append_in hu hux hdx hinfo (m := 0) (news := []) (hn3 _ _) (by rw [hi2]; exact hn4 _ _ rfl) (by omega)]
      cases a with
      | none => rfl
      | some p => simp [storeCells]
    · have hzz : ∀ y ∈ xs ++ ys, y.length = j.sz := fun y hy => by
        rcases List.mem_append.1 hy with hy | hy
        · exact hz y hy
        · exact hyz y hy
      by_cases hroom : xs.length + ys.length ≤ cap
      · -- in place
        rcases hat with ⟨_, h3⟩ | ⟨b, arr, et, h1, h2, h3, h4, h5⟩
        · omega
        · subst h2
          have hoz : ∀ k u, olds[k]? = some u → arr[k]? = some u := fun k u hk => by
            -- the old cells lie at the block's head
            have hlt : k < xs.length * j.sz := by rw [← ho2]; exact (List.getElem?_eq_some_iff.1 hk).1
            have hf := ho4 E.P c.w rfl
            have hca : CellsAt c.w ⟨b, 0, none⟩ (arr.toList.take (xs.length * j.sz)) := fun k u hk => by
              rw [List.getElem?_take] at hk
              split at hk
              · rw [Array.getElem?_toList] at hk
                have e2 : (⟨b, 0, none⟩ : Addr).add k = ⟨b, k, none⟩ := by
                  unfold Addr.add
                  split
                  · rename_i h0; rw [h0]
                  · simp
                rw [e2]
                exact cell?_of h3 hk
              · simp at hk
            have hlen : (arr.toList.take (xs.length * j.sz)).length = xs.length * j.sz := by
              have := Nat.mul_le_mul_right j.sz hc
              simp only [List.length_take, Array.length_toList]
              omega
            have h6 := run_loadCells (P := E.P) hca
            rw [hlen] at h6
            simp only [Builtin.firstCells] at hf
            rw [h6] at hf
            injection hf with hf
            have hf' : arr.toList.take (xs.length * j.sz) = olds := by simpa using hf
            rw [← hf', List.getElem?_take, if_pos hlt, Array.getElem?_toList] at hk
            exact hk
          have hfits : xs.length * j.sz + news.length ≤ arr.size := by
            rw [hn2, h4, ← Nat.add_mul]
            exact Nat.mul_le_mul_right _ hroom
          have hadd : (⟨b, 0, none⟩ : Addr).add (xs.length * j.sz) = ⟨b, xs.length * j.sz, none⟩ := by
            unfold Addr.add
            split
            · rename_i h0; rw [h0]
            · simp
          obtain ⟨w', arr', hrun, htu, hb', hs', hk'⟩ := run_storeCells (P := E.P) (b := b) (off := xs.length * j.sz) news 0 c.w arr h3 (by omega) (fun u hu => by
            obtain ⟨k, hk⟩ := List.getElem?_of_mem hu
            have hka : k < ys.flatten.length := by rw [hn1.1]; exact (List.getElem?_eq_some_iff.1 hk).1
            have hmem := List.getElem_mem hka
            obtain ⟨y, hy, hya⟩ := List.mem_flatten.1 hmem
            exact (hn1.2 k _ u (List.getElem?_eq_getElem hka) hk).one' (hone y hy _ hya))
          simp only [Nat.add_zero] at hk'
          have hold : ∀ k, k < xs.length * j.sz → arr'[k]? = arr[k]? := fun k hk => by rw [hk' k, if_neg (by omega)]
          have hx1 := Ext.tailIn (n' := xs.length + ys.length) ho hH h1 h3 htu hb' hs' hold (by omega)
          have hhr : HR (c.upd (m + q) (.tail (xs.length + ys.length) j.sz) w') := HR.upd ho hH h1 rfl hx1 htu ⟨arr', et, hb', by rw [hs', h4]; exact Nat.mul_le_mul_right _ hroom⟩
          refine ⟨.slice (some ⟨b, 0, none⟩) (xs.length + ys.length) cap, c.ι, w', ?_, hx1, hhr, ?_⟩
          · rw [run_append_in hu hux hdx hinfo (hn3 _ _) (by rw [hi2]; exact hn4 _ _ rfl) hroom, hi2]
            simp only
            rw [hadd, hrun]
            rfl
          · refine mk_sl (c := c.upd (m + q) (.tail (xs.length + ys.length) j.sz) w') (ws := olds ++ news) (by rw [List.length_append]) hroom hzz ?_ ?_ (fun k u hk => ?_)
            · cases mn with
              | false => exact .inr ⟨xs.length + ys.length, (set_get hid).2 (.inl ⟨rfl, rfl⟩), Nat.le_refl _, fun _ => .inr ⟨b, arr', et, h1, rfl, hb', by rw [hs']; exact h4, h5⟩⟩
              | true => exact .inr ⟨xs.length + ys.length, (set_get hid).2 (.inl ⟨rfl, rfl⟩), Nat.le_refl _, fun _ => ⟨b, arr', et, h1, rfl, hb', by rw [hs']; exact h4, h5⟩⟩
            · rw [List.flatten_append]
              exact (ho1.append hn1).mono hx1.toExt0
            · have hkl : k < (xs.length + ys.length) * j.sz := by
                have := (List.getElem?_eq_some_iff.1 hk).1
                rw [List.length_append, ho2, hn2, ← Nat.add_mul] at this
                exact this
              refine ⟨cell?_of hb' ?_, ?_⟩
              · rw [hk' k]
                by_cases hc1 : k < xs.length * j.sz
                · rw [if_neg (by omega)]
                  rw [List.getElem?_append_left (by omega)] at hk
                  exact hoz k u hk
                · rw [List.getElem?_append_right (by omega), ho2] at hk
                  have := (List.getElem?_eq_some_iff.1 hk).1
                  rw [if_pos (by omega)]
                  exact hk
              · rintro ⟨k1, x1, g1, g2, g3⟩
                rcases (set_get hid).1 g1 with ⟨rfl, rfl⟩ | ⟨hne, g1⟩
                · have g3' : (xs.length + ys.length) * j.sz ≤ k := g3
                  omega
                · have hl1 : x1.live = true := by cases x1 <;> first | rfl | exact g3.elim
                  exact hne (ho.inj k1 (m + q) b _ _ g1 hH hl1 rfl g2 h1)
      · -- into a new block
        obtain ⟨cap', rest, h1, h2, h3, h4⟩ := run_append_out (P := E.P) (w := c.w) (t := ty) (tx := tx) (ty := ty0) (e := e) (z := j.zero) (base := a) (sLen := xs.length) (sCap := cap) (v := x) (olds := olds) (news := news) hu hux hdx hinfo hi1
          (hn3 _ _) (by rw [hi2]; exact hn4 _ _ rfl) (by rw [hi2]; exact ho4 _ _ rfl) (by omega) (by omega) (by rw [hi3]; exact hfit)
        have hsz : (olds ++ news ++ rest).toArray.size = cap' * j.sz := by
          simp only [List.size_toArray, List.length_append, ho2, hn2, h3, hzs]
          rw [← Nat.add_mul, ← Nat.add_mul]
          congr 1
          omega
        have hHd : c.drew.H[m + q]? = some (.tail xs.length j.sz) := hH
        have hx1 := (Ext.drew c).trans (Ext.moveTail (n' := xs.length + ys.length) (ob := .cells (olds ++ news ++ rest).toArray e) ho.drew hHd (by omega))
        have hhr := HR.moveTail (n' := xs.length + ys.length) (arr := (olds ++ news ++ rest).toArray) (e := e) ho.drew hHd (by omega) (by rw [hsz]; exact Nat.mul_le_mul_right _ h1)
        refine ⟨_, _, _, h4, hx1, hhr, ?_⟩
        refine mk_sl (c := c.drew.moveTail (m + q) (xs.length + ys.length) j.sz (.cells (olds ++ news ++ rest).toArray e)) (ws := olds ++ news) (by rw [List.length_append]) h1 hzz ?_ ?_ (fun k u hk => ?_)
        · cases mn with
          | false => exact .inr ⟨xs.length + ys.length, (set_get hid).2 (.inl ⟨rfl, rfl⟩), Nat.le_refl _, fun _ => .inr ⟨c.w.heap.size, _, e, moveTail_ι.2 (.inl ⟨rfl, rfl⟩), rfl, heap_alloc_eq _ _, hsz, h2⟩⟩
          | true => exact .inr ⟨xs.length + ys.length, (set_get hid).2 (.inl ⟨rfl, rfl⟩), Nat.le_refl _, fun _ => ⟨c.w.heap.size, _, e, moveTail_ι.2 (.inl ⟨rfl, rfl⟩), rfl, heap_alloc_eq _ _, hsz, h2⟩⟩
        · rw [List.flatten_append]
          exact (ho1.append hn1).mono hx1.toExt0
        · have hkl : k < (xs.length + ys.length) * j.sz := by
            have := (List.getElem?_eq_some_iff.1 hk).1
            rw [List.length_append, ho2, hn2, ← Nat.add_mul] at this
            exact this
          refine ⟨cell?_of (heap_alloc_eq _ _) (by rw [List.getElem?_toArray, List.getElem?_append_left (List.getElem?_eq_some_iff.1 hk).1]; exact hk), ?_⟩
          rintro ⟨k1, x1, g1, g2, g3⟩
          rcases (set_get hid).1 g1 with ⟨rfl, rfl⟩ | ⟨hne, g1⟩
          · have g3' : (xs.length + ys.length) * j.sz ≤ k := g3
            omega
          · rcases moveTail_ι.1 g2 with ⟨e1, _⟩ | ⟨_, g2⟩
            · exact hne e1
            · have := ho.drew.bound _ _ g2
              exact absurd this (Nat.lt_irrefl _)
  | _ => subst hv; cases hr
theorem app_row {E : Env} {c : Cfg} {ty tx e m q : Nat} {ty0 : TypeId} {j ix : TI} {xs ys : List (List AV)} {v x : Value} (ho : HR c) (hs : sliceOf E.T ty = some (e, j)) (hx : lookT E.T tx = some ix) (hd : ∀ k, ix.d ≠ .int k)
    (hb : 0 < j.bytes) (hz0 : 0 < j.sz) (hone : ∀ y ∈ ys, ∀ a ∈ y, a.one = true) (hzs : j.zero.cells.size = j.sz) (hH : c.H[m + q]? = some (.tail xs.length j.sz)) (hr : RelV c (.sl (.row m q) j.sz xs) v) (hsrc : SrcOk c j.sz x ys.length ys.flatten) (hyz : ∀ y ∈ ys, y.length = j.sz)
    (hfit : (xs.length + ys.length) * j.bytes ≤ 140737488355328) :
    ∃ v' ι' w', (Builtin.append_ #[ty, tx] ty0 #[v, x]).run E.P c.w = .ok v' w' ∧ Ext c ⟨ι', c.H.set (m + q) (.tail (xs.length + ys.length) j.sz), w'⟩ ∧ HR ⟨ι', c.H.set (m + q) (.tail (xs.length + ys.length) j.sz), w'⟩ ∧
      RelV ⟨ι', c.H.set (m + q) (.tail (xs.length + ys.length) j.sz), w'⟩ (.sl (.row m q) j.sz (xs ++ ys)) v' :=
  app_rowM ho hs hx hd hb hz0 hone hzs hH hr hsrc hyz hfit false (by simp)
end Go.Gp
