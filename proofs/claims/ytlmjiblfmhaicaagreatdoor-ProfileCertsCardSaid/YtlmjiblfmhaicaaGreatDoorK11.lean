/- Part of a proof: GpA41 -/
import Derived.Test.YtlmjiblfmhaicaaGreatDoorK10
import Derived.MapKept
import Derived.Laws.NewFold

set_option linter.unusedSectionVars false

/- Maps: made, written, read, cut; walked entry by entry. -/
namespace Go.Gp
open Go.RowKit
set_option linter.unusedVariables false
set_option linter.unusedSimpArgs false

abbrev AEntry := AV × AV × Nat

def keyK : TD → AV → Bool
  | .str, .str _ => true
  | .int k, .int j _ => decide (j = k)
  | _, _ => false
def keyB : AV → AV → Bool
  | .str a, .str b => a == b
  | .int j a, .int k b => decide (j = k) && a == b
  | _, _ => false
def findA (k : AV) : List AEntry → Option Nat
  | [] => none
  | e :: es => bif keyB k e.1 then some 0 else (findA k es).map (· + 1)
def mapOf (T : List (Nat × TI)) (ty : Nat) : Option (TI × TI) :=
  match lookT T ty with
  | some i => match i.d with
    | .map k e => match lookT T k, lookT T e with
      | some ki, some ei => some (ki, ei)
      | _, _ => none
    | _ => none
  | none => none
theorem mapOf_spec {E : Env} {ty : Nat} {ki ei : TI} (h : mapOf E.T ty = some (ki, ei)) : ∃ k e, E.P.underlying ty = some (.map k e) ∧ lookT E.T k = some ki ∧ lookT E.T e = some ei := by
  unfold mapOf at h
  split at h <;> try simp at h
  rename_i i hi
  split at h <;> try simp at h
  rename_i k e he
  split at h <;> try simp at h
  rename_i ki' ei' hk' he'
  obtain ⟨rfl, rfl⟩ := h
  obtain ⟨d, h1, h2⟩ := (Env.ti hi).u
  rw [he] at h2
  exact ⟨k, e, h1.trans (congrArg some h2), hk', he'⟩

theorem keyK_isKey {c : Cfg} {d : TD} {td : TypeDesc} {a : AV} {v : Value} (hd : d.ok td) (h : keyK d a = true) (hr : RelV c a v) : MapKept.IsKey td v := by
  cases d <;> cases a <;> simp [keyK] at h
  · cases hr; subst h; simp only [TD.ok] at hd; subst hd; rfl
  · cases hr; simp only [TD.ok] at hd; subst hd; trivial

theorem keyB_iff {c : Cfg} {d : TD} {a b : AV} {v u : Value} (ha : keyK d a = true) (hb : keyK d b = true) (hr : RelV c a v) (hs : RelV c b u) : keyB a b = true ↔ v = u := by
  cases d <;> cases a <;> simp [keyK] at ha <;> cases b <;> simp [keyK] at hb
  · cases hr; cases hs; subst ha; subst hb; simp [keyB]
  · cases hr; cases hs; simp [keyB]

theorem findA_lt {k : AV} : ∀ {es : List AEntry} {j : Nat}, findA k es = some j → j < es.length
  | [], _, h => by cases h
  | e :: es, j, h => by
    unfold findA at h
    cases hb : keyB k e.1 with
    | true => rw [hb] at h; simp at h; subst h; simp
    | false =>
      rw [hb] at h
      simp only [cond_false, Option.map_eq_some_iff] at h
      obtain ⟨j', h1, rfl⟩ := h
      have := findA_lt h1
      simp; omega

/-- The entries describe the machine's. -/
def EntsR (c : Cfg) (es : List AEntry) (xs : List MapEntry) : Prop := es.length = xs.length ∧ ∀ (i : Nat) e x, es[i]? = some e → xs[i]? = some x → RelV c e.1 x.key ∧ RelV c e.2.1 x.val ∧ x.born = e.2.2

theorem EntsR.find {c : Cfg} {td : TypeDesc} {d : TD} (hd : d.ok td) {k : AV} {kv : Value} (hk : keyK d k = true) (hkr : RelV c k kv) : ∀ {es : List AEntry} {xs : List MapEntry} (n : Nat), EntsR c es xs → (∀ e ∈ es, keyK d e.1 = true) →
    match findA k es with
    | none => Instr.findNow td kv xs n = some none
    | some j => ∃ x, xs[j]? = some x ∧ x.key = kv ∧ Instr.findNow td kv xs n = some (some (n + j, x.val))
  | [], xs, n, h, _ => by
    have : xs = [] := List.length_eq_zero_iff.1 h.1.symm
    subst this
    rfl
  | e :: es, [], n, h, _ => by have := h.1; simp at this
  | e :: es, x :: xs, n, h, ha => by
    have h0 := h.2 0 e x rfl rfl
    have he := ha e List.mem_cons_self
    have hi := keyB_iff hk he hkr h0.1
    obtain ⟨r, hr, hiff⟩ := MapKept.sameNow_of_keys (keyK_isKey hd hk hkr) (keyK_isKey hd he h0.1)
    unfold findA
    cases hb : keyB k e.1 with
    | true =>
      have hv := hi.1 hb
      have : r = true := hiff.2 hv
      subst this
      exact ⟨x, rfl, hv.symm, by simp [Instr.findNow, hr]⟩
    | false =>
      have hrf : r = false := by
        cases r with
        | false => rfl
        | true => have := hi.2 (hiff.1 rfl); rw [hb] at this; cases this
      subst hrf
      have ih := EntsR.find (c := c) hd hk hkr (es := es) (xs := xs) (n + 1) ⟨by have := h.1; simpa using this, fun i e' x' h1 h2 => h.2 (i + 1) e' x' (by simpa using h1) (by simpa using h2)⟩ (fun e' he' => ha e' (List.mem_cons_of_mem _ he'))
      simp only [cond_false]
      cases hf : findA k es with
      | none =>
        rw [hf] at ih
        simp only [Option.map_none]
        simp [Instr.findNow, hr, ih]
      | some j =>
        rw [hf] at ih
        simp only [Option.map_some]
        obtain ⟨x', h1, h2, h3⟩ := ih
        exact ⟨x', by simpa using h1, h2, by simp [Instr.findNow, hr, h3]; omega⟩

theorem RelL2 {c : Cfg} {a b : AV} {u v : Value} (h : RelV c a u) (g : RelV c b v) : ∀ (i : Nat) (x : AV) (y : Value), [a, b][i]? = some x → [u, v][i]? = some y → RelV c x y := (RelL.cons h (RelL.cons g (RelL.nil c))).2

section
variable {E : Env} {ro : Option Nat} {n : Nat} {K : Kont} {t : Slots} {H H' H1 L : List AObj} {ops : Array Oper} {o : Oper} {l rest : List Oper} {d : Nat}

/-- The map behind a reference. -/
theorem map_at {c : Cfg} {m j b : Nat} {es : List AEntry} {clk : Nat} (ho : HR c) (hb : boxAt c (m + j) b) (hH : c.H[m + j]? = some (.map es clk)) :
    ∃ xs : Array MapEntry, c.w.heap[b]? = some (.map xs clk) ∧ EntsR c es xs.toList := by
  obtain ⟨o, h1, h2, h3⟩ := hb
  obtain ⟨xs, g1, g2, g3⟩ := ho.obj _ _ _ hH h3 rfl
  refine ⟨xs, g1, by simpa using g2, fun i e x he hx => ?_⟩
  have := g3 i e.1 e.2.1 e.2.2 x he (by simpa using hx)
  exact this

theorem map_val {c : Cfg} {m j : Nat} {v : Value} (h : RelV c (.map m j) v) : ∃ b, v = .map (some b) ∧ boxAt c (m + j) b := by
  cases h with | map h => exact ⟨_, rfl, h⟩

theorem P1.makeMap {ty : Nat} (hop : o.op = .makeMap ty none) : P1 E n (H ++ L) (H ++ (L ++ [.map [] 0])) o t (.map H.length L.length) :=
  ⟨fun cc e => (by rw [hop] at e; cases e), fun c a hH ho s => by
    have h2 := Ext.newObj c (.map [] 0) (.map #[] 0) ho.hr
    have h3 : HR (c.newObj (.map [] 0) (.map #[] 0)) := HR.newObj ho.hr ⟨#[], heap_alloc_eq _ _, rfl, by simp⟩
    have h4 : RelV (c.newObj (.map [] 0) (.map #[] 0)) (.map H.length L.length) (.map (some c.w.heap.size)) := by
      refine .map ⟨.map [] 0, newObj_get.2 (.inr ⟨?_, rfl⟩), rfl, (newObj_ι ho.hr).2 (.inr ⟨?_, rfl⟩)⟩ <;> rw [hH] <;> simp
    have h5 : c.H ++ [.map [] 0] = H ++ (L ++ [.map [] 0]) := by rw [hH]; simp
    unfold Cfg.newObj at h2 h3 h4
    rw [h5] at h2 h3 h4
    refine ⟨.map (some c.w.heap.size), _, _, ?_, h2, h3, h4⟩
    simp [execOp, hop, Instr.makeMap, Result.andThen]⟩

def zeroV (i : TI) : AV := constA i.zero

/-- What a look into a map finds. -/
def lookM (ei : TI) (es : List AEntry) (k : AV) : AV × Bool :=
  match findA k es with
  | none => (zeroV ei, false)
  | some j => (((es[j]?).map (·.2.1)).getD .unk, true)

theorem P1.lookup {ty m j : Nat} {x ix : Operand} {ki ei : TI} {es : List AEntry} {clk : Nat} {k : AV} (ok : Bool) (hop : o.op = .lookup ty x ix ok) (hs : mapOf E.T ty = some (ki, ei)) (hx : evalA E.G t x = .map m j)
    (hH : H[m + j]? = some (.map es clk)) (hi : evalA E.G t ix = k) (hk : keyK ki.d k = true) (hes : ∀ e ∈ es, keyK ki.d e.1 = true) :
    P1 E n H H o t (bif ok then .tup [(lookM ei es k).1, .bool (lookM ei es k).2] else (lookM ei es k).1) :=
  .still (fun cc e => by rw [hop] at e; cases e) (fun c a hcH ho sr => by
    obtain ⟨kt, et, hu, hk1, he1⟩ := mapOf_spec hs
    have hxr := eval_rel ho sr x
    rw [hx] at hxr
    obtain ⟨b, hxv, hb⟩ := map_val hxr
    have hir := eval_rel ho sr ix
    rw [hi] at hir
    obtain ⟨xs, h1, h2⟩ := map_at ho.hr hb (by rw [hcH]; exact hH)
    obtain ⟨td, htd, hok⟩ := (Env.ti hk1).u
    have hf := h2.find hok hk hir 0 hes
    have hck : (Instr.checkKey xs.isEmpty 10000 kt (a.eval ix)).run E.P c.w = .ok () c.w := MapKept.run_checkKey htd (keyK_isKey hok hk hir) xs.isEmpty 9999
    have hgo := MapKept.run_getObj_map (P := E.P) h1
    unfold lookM
    cases hfa : findA k es with
    | none =>
      rw [hfa] at hf
      have hfk := MapKept.run_findKey (w := c.w) htd hf
      have hrun : (Instr.lookup ty (a.eval x) (a.eval ix) ok).run E.P c.w = .ok (if ok then .tuple #[ei.zero, .bool false] else ei.zero) c.w := by
        rw [hxv]
        simp only [Instr.lookup, Sem.run_bind, Sem.run_pure, run_underlying hu, Result.andThen, hgo, hck, hfk, run_zeroValue he1]
      refine ⟨_, by simp only [execOp, hop, Sem.run_bind, hrun, Result.andThen]; rfl, ?_⟩
      cases ok with
      | true => exact .tup [ei.zero, .bool false] rfl (RelL2 (constA_rel c _) .bool)
      | false => exact constA_rel c _
    | some q =>
      rw [hfa] at hf
      obtain ⟨e, g1, g2, g3⟩ := hf
      have hfk := MapKept.run_findKey (w := c.w) htd g3
      have hrun : (Instr.lookup ty (a.eval x) (a.eval ix) ok).run E.P c.w = .ok (if ok then .tuple #[e.val, .bool true] else e.val) c.w := by
        rw [hxv]
        simp only [Instr.lookup, Sem.run_bind, Sem.run_pure, run_underlying hu, Result.andThen, hgo, hck, hfk]
      have hq := findA_lt hfa
      have hv : RelV c (((es[q]?).map (·.2.1)).getD .unk) e.val := by
        rw [List.getElem?_eq_getElem hq]
        exact (h2.2 q es[q] e (List.getElem?_eq_getElem hq) g1).2.1
      refine ⟨_, by simp only [execOp, hop, Sem.run_bind, hrun, Result.andThen]; rfl, ?_⟩
      cases ok with
      | true => exact .tup [e.val, .bool true] rfl (RelL2 hv .bool)
      | false => exact hv)

/-- A map that is written. -/
def putM (es : List AEntry) (clk : Nat) (k v : AV) : List AEntry × Nat :=
  match findA k es with
  | none => (es ++ [(k, v, clk)], clk + 1)
  | some j => (es.modify j fun e => (k, v, e.2.2), clk)

theorem map_upd {c : Cfg} (ho : HR c) {m j b : Nat} {es es' : List AEntry} {clk clk' : Nat} {xs : Array MapEntry} (hb : boxAt c (m + j) b) (hH : c.H[m + j]? = some (.map es clk)) (hx : EntsR c es' xs.toList) :
    Ext c (c.upd (m + j) (.map es' clk') { c.w with heap := c.w.heap.setIfInBounds b (.map xs clk') }) ∧ HR (c.upd (m + j) (.map es' clk') { c.w with heap := c.w.heap.setIfInBounds b (.map xs clk') }) := by
  obtain ⟨o, h1, h2, h3⟩ := hb
  obtain ⟨ys, g1, g2, g3⟩ := ho.obj _ _ _ hH h3 rfl
  have hlt := ho.bound _ _ h3
  have ht : Turned c.w { c.w with heap := c.w.heap.setIfInBounds b (.map xs clk') } b := ⟨rfl, rfl, rfl, by simp, fun k hk => by simp [Array.getElem?_setIfInBounds, Ne.symm hk], fun n ⟨arr, e, fr, h', _⟩ => by rw [g1] at h'; cases h'⟩
  have hE := Ext.upd (o' := .map es' clk') ho hH h3 rfl rfl rfl rfl (fun _ => trivial) ht
  refine ⟨hE, HR.upd (o := .map es clk) ho hH h3 rfl hE ht ⟨xs, by simp [Cfg.upd, hlt], by simpa using hx.1, fun i k v s en h4 h5 => ?_⟩⟩
  obtain ⟨a1, a2, a3⟩ := hx.2 i (k, v, s) en h4 (by simpa using h5)
  exact ⟨a1.mono hE.toExt0, a2.mono hE.toExt0, a3⟩

theorem EntsR.push {c : Cfg} {es : List AEntry} {xs : List MapEntry} (h : EntsR c es xs) {k v : AV} {kv vv : Value} {s : Nat} (hk : RelV c k kv) (hv : RelV c v vv) : EntsR c (es ++ [(k, v, s)]) (xs ++ [{ key := kv, val := vv, born := s }]) := by
  refine ⟨by simp [h.1], fun i e x he hx => ?_⟩
  rcases Nat.lt_or_ge i es.length with hlt | hge
  · rw [List.getElem?_append_left hlt] at he
    rw [List.getElem?_append_left (by rw [← h.1]; exact hlt)] at hx
    exact h.2 i e x he hx
  · rw [List.getElem?_append_right hge] at he
    rw [List.getElem?_append_right (by rw [← h.1]; exact hge), ← h.1] at hx
    cases hd : i - es.length with
    | zero => rw [hd] at he hx; simp at he hx; subst he; subst hx; exact ⟨hk, hv, rfl⟩
    | succ q => rw [hd] at he; simp at he

theorem U1.mapUpdate {ty m j : Nat} {x kx vx : Operand} {ki ei : TI} {es : List AEntry} {clk : Nat} {k v : AV} (hop : o.op = .mapUpdate ty x kx vx ∨ o.op = .insert ty x kx vx) (hs : mapOf E.T ty = some (ki, ei)) (hx : evalA E.G t x = .map m j)
    (hH : H[m + j]? = some (.map es clk)) (hi : evalA E.G t kx = k) (hv : evalA E.G t vx = v) (hk : keyK ki.d k = true) (hes : ∀ e ∈ es, keyK ki.d e.1 = true) :
    U1 E n H (H.set (m + j) (.map (putM es clk k v).1 (putM es clk k v).2)) o t :=
  ⟨fun cc e => (by rcases hop with h | h <;> (rw [h] at e; cases e)), fun c a hcH ho sr => by
    obtain ⟨kt, et, hu, hk1, he1⟩ := mapOf_spec hs
    have hxr := eval_rel ho sr x
    rw [hx] at hxr
    obtain ⟨b, hxv, hb⟩ := map_val hxr
    have hir := eval_rel ho sr kx
    rw [hi] at hir
    have hvr := eval_rel ho sr vx
    rw [hv] at hvr
    have hcH2 : c.H[m + j]? = some (.map es clk) := by rw [hcH]; exact hH
    obtain ⟨xs, h1, h2⟩ := map_at ho.hr hb hcH2
    obtain ⟨td, htd, hok⟩ := (Env.ti hk1).u
    have hf := h2.find hok hk hir 0 hes
    have hck : (Instr.checkKey false 10000 kt (a.eval kx)).run E.P c.w = .ok () c.w := MapKept.run_checkKey htd (keyK_isKey hok hk hir) false 9999
    have hgo := MapKept.run_getObj_map (P := E.P) h1
    have hex : ∀ w', (Instr.mapUpdate ty (a.eval x) (a.eval kx) (a.eval vx)).run E.P c.w = .ok () w' → (execOp a.eval o).run E.P c.w = .ok .skip w' := fun w' h => by
      rcases hop with e | e <;> (simp only [execOp, e, Sem.run_bind, h, Result.andThen]; rfl)
    unfold putM
    cases hfa : findA k es with
    | none =>
      rw [hfa] at hf
      have hfk := MapKept.run_findKey (w := c.w) htd hf
      have hso := MapKept.run_setObj_map (P := E.P) (.map (xs.push { key := a.eval kx, val := a.eval vx, born := clk }) (clk + 1)) h1
      have hrun : (Instr.mapUpdate ty (a.eval x) (a.eval kx) (a.eval vx)).run E.P c.w = .ok () { c.w with heap := c.w.heap.setIfInBounds b (.map (xs.push { key := a.eval kx, val := a.eval vx, born := clk }) (clk + 1)) } := by
        rw [hxv]
        simp only [Instr.mapUpdate, Sem.run_bind, run_underlying hu, Result.andThen, hgo, hck, hfk, hso]
      have hup := map_upd (es' := es ++ [(k, v, clk)]) (clk' := clk + 1) ho.hr hb hcH2 (xs := xs.push { key := a.eval kx, val := a.eval vx, born := clk }) (by rw [Array.toList_push]; exact h2.push hir hvr)
      refine ⟨c.ι, _, hex _ hrun, ?_⟩
      rw [← hcH]
      exact hup
    | some q =>
      rw [hfa] at hf
      obtain ⟨e, g1, g2, g3⟩ := hf
      have g1' : xs[q]? = some e := by simpa using g1
      have hfk := MapKept.run_findKey (w := c.w) htd g3
      have hso := MapKept.run_setObj_map (P := E.P) (.map (xs.modify q fun e => { e with key := a.eval kx, val := a.eval vx }) clk) h1
      have hsb : Instr.sameBits 10000 (((xs[0 + q]?).map (·.key)).getD (a.eval kx)) (a.eval kx) = true := by
        rw [Nat.zero_add, g1']
        show Instr.sameBits 10000 e.key (a.eval kx) = true
        rw [g2]
        have := keyK_isKey hok hk hir
        cases td <;> generalize a.eval kx = u at this <;> cases u <;> simp [MapKept.IsKey] at this <;> simp [Instr.sameBits]
        exact (MapKept.bytes_beq _ _).2 rfl
      have hrun : (Instr.mapUpdate ty (a.eval x) (a.eval kx) (a.eval vx)).run E.P c.w = .ok () { c.w with heap := c.w.heap.setIfInBounds b (.map (xs.modify q fun e => { e with key := a.eval kx, val := a.eval vx }) clk) } := by
        rw [hxv]
        simp only [Instr.mapUpdate, Sem.run_bind, run_underlying hu, Result.andThen, hgo, hck, hfk, Instr.keyThatStays, hsb, if_true]
        rw [Nat.zero_add]
        simpa [Sem.run] using hso
      have hent : EntsR c (es.modify q fun e => (k, v, e.2.2)) (xs.modify q fun e => { e with key := a.eval kx, val := a.eval vx }).toList := by
        refine ⟨by simp [h2.1], fun i e' x' he hx' => ?_⟩
        rw [List.getElem?_modify] at he
        rw [Array.getElem?_toList, Array.getElem?_modify] at hx'
        by_cases hqi : q = i
        · subst hqi
          rw [g1'] at hx'
          simp at he hx'
          obtain ⟨a1, a2, a3, a4, rfl⟩ := he
          subst hx'
          have := h2.2 q _ e a4 g1
          exact ⟨hir, hvr, this.2.2⟩
        · rw [if_neg hqi] at hx'
          simp [hqi] at he
          exact h2.2 i e' x' he (by simpa using hx')
      have hup := map_upd (clk' := clk) ho.hr hb hcH2 hent
      refine ⟨c.ι, _, hex _ hrun, ?_⟩
      rw [← hcH]
      exact hup⟩

/-! ### Entry by entry -/
theorem P1.range {ty m j : Nat} {x : Operand} {ki ei : TI} {es : List AEntry} {clk : Nat} (hop : o.op = .range ty x) (hs : mapOf E.T ty = some (ki, ei)) (hx : evalA E.G t x = .map m j)
    (hH : (H ++ L)[m + j]? = some (.map es clk)) : P1 E n (H ++ L) (H ++ (L ++ [.iter m j clk [] clk])) o t (.ptr H.length L.length 0) :=
  ⟨fun cc e => (by rw [hop] at e; cases e), fun c a hcH ho s => by
    obtain ⟨kt, et, hu, hk1, he1⟩ := mapOf_spec hs
    have hxr := eval_rel ho s x
    rw [hx] at hxr
    obtain ⟨b, hxv, hb⟩ := map_val hxr
    have hcH2 : c.H[m + j]? = some (.map es clk) := by rw [hcH]; exact hH
    obtain ⟨xs, h1, _⟩ := map_at ho.hr hb hcH2
    have hgo := MapKept.run_getObj_map (P := E.P) h1
    have h2 := Ext.newObj c (.iter m j clk [] clk) (.mapIter (some b) clk #[] clk) ho.hr
    have h3 : HR (c.newObj (.iter m j clk [] clk) (.mapIter (some b) clk #[] clk)) := HR.newObj ho.hr ⟨b, heap_alloc_eq _ _, h2.bx _ _ hb⟩
    have h4 : RelV (c.newObj (.iter m j clk [] clk) (.mapIter (some b) clk #[] clk)) (.ptr H.length L.length 0) (.pointer (some ⟨c.w.heap.size, 0, none⟩)) := by
      refine .ptr ⟨.iter m j clk [] clk, newObj_get.2 (.inr ⟨?_, rfl⟩), rfl, (newObj_ι ho.hr).2 (.inr ⟨?_, rfl⟩)⟩ <;> rw [hcH] <;> simp
    have h5 : c.H ++ [.iter m j clk [] clk] = H ++ (L ++ [.iter m j clk [] clk]) := by rw [hcH]; simp
    unfold Cfg.newObj at h2 h3 h4
    rw [h5] at h2 h3 h4
    refine ⟨.pointer (some ⟨c.w.heap.size, 0, none⟩), _, _, ?_, h2, h3, h4⟩
    simp [execOp, hop, hxv, Instr.range, run_underlying hu, hgo, Result.andThen]⟩

theorem iter_at {c : Cfg} {p q b : Nat} {m j since stepped : Nat} {seen : List Nat} (ho : HR c) (hb : boxAt c (p + q) b) (hH : c.H[p + q]? = some (.iter m j since seen stepped)) :
    ∃ mb, c.w.heap[b]? = some (.mapIter (some mb) since seen.toArray stepped) ∧ boxAt c (m + j) mb := by
  obtain ⟨o, h1, h2, h3⟩ := hb
  exact ho.obj _ _ _ hH h3 rfl

theorem ptr_val {c : Cfg} {m j off : Nat} {v : Value} (h : RelV c (.ptr m j off) v) : ∃ b, v = .pointer (some ⟨b, off, none⟩) ∧ boxAt c (m + j) b := by
  cases h with | ptr h => exact ⟨_, rfl, h⟩

theorem run_getIter {P : Program} {w : World} {r a d : Nat} {m : Option Nat} {b : Array Nat} (hb : w.heap[r]? = some (.mapIter m a b d)) : (getObj r).run P w = .ok (.mapIter m a b d) w := by simp [getObj, Sem.run, hb]
theorem run_setIter {P : Program} {w : World} {r a d : Nat} {m : Option Nat} {b : Array Nat} (o : Obj) (hb : w.heap[r]? = some (.mapIter m a b d)) : (setObj r o).run P w = .ok () { w with heap := w.heap.setIfInBounds r o } := by simp [setObj, Sem.run, hb]

theorem run_chooseNext (P : Program) (w : World) (k : Nat) : ∃ i w', (choose (.mapNext k)).run P w = .ok i w' ∧ (w' = w ∨ w' = w.drew) ∧ (0 < k → i < k) := by
  by_cases hk : k ≤ 1
  · refine ⟨0, w, ?_, .inl rfl, id⟩
    simp [Question.forced, hk]
  · refine ⟨w.tape w.drawn (.mapNext k) % k, w.drew, ?_, .inr rfl, fun h0 => Nat.mod_lt _ h0⟩
    rw [run_choose_drew, if_neg (by simp [Question.forced, hk])]
    rfl

theorem WpOps.next {it : Operand} {p q m j since stepped clk : Nat} {seen : List Nat} {es : List AEntry} (hw : wantedA ops t o = some true) (hd : o.dst = some d) (hdn : Nat.blt d n = true) (hop : o.op = .next it false)
    (hit : evalA E.G t it = .ptr p q 0) (hI : H[p + q]? = some (.iter m j since seen stepped)) (hM : H[m + j]? = some (.map es clk)) (hst : ∀ e ∈ es, e.2.2 < since ∧ e.2.2 < stepped)
    (hend : (∀ e ∈ es, e.2.2 ∈ seen) → WpOps E ro n ops rest K ((d, .tup [.bool false]) :: t) H)
    (hnext : ∀ k v s, (k, v, s) ∈ es → s ∉ seen → WpOps E ro n ops rest K ((d, .tup [.bool true, k, v]) :: t) (H.set (p + q) (.iter m j since (seen ++ [s]) clk))) : WpOps E ro n ops (o :: rest) K t H := by
  refine ⟨?_⟩
  intro cd c0 c a e1 e2 e3 e4 e5
  have hr := eval_rel e3 e4 it
  rw [hit] at hr
  obtain ⟨b, hiv, hb⟩ := ptr_val hr
  have hI' : c.H[p + q]? = some (.iter m j since seen stepped) := by rw [e2]; exact hI
  have hM' : c.H[m + j]? = some (.map es clk) := by rw [e2]; exact hM
  obtain ⟨mb, hib, hmb⟩ := iter_at e3.hr hb hI'
  obtain ⟨xs, hxs, hent⟩ := map_at e3.hr hmb hM'
  have hborn : ∀ x ∈ xs.toList, ∃ e ∈ es, x.born = e.2.2 ∧ RelV c e.1 x.key ∧ RelV c e.2.1 x.val := fun x hx => by
    obtain ⟨i, hi⟩ := List.getElem?_of_mem hx
    have hlt : i < es.length := by have := (List.getElem?_eq_some_iff.1 hi).1; rw [hent.1]; exact this
    have := hent.2 i es[i] x (List.getElem?_eq_getElem hlt) hi
    exact ⟨es[i], List.getElem_mem hlt, this.2.2, this.1, this.2.1⟩
  have hguard : (!seen.toArray.isEmpty && !xs.isEmpty && xs.all (fun x => decide (x.born ≥ stepped))) = false := by
    cases hx : xs.toList with
    | nil =>
      have : xs = #[] := by cases xs; simpa using hx
      subst this
      simp
    | cons x r =>
      have hm : x ∈ xs.toList := by rw [hx]; exact List.mem_cons_self
      obtain ⟨e, he, hb1, _⟩ := hborn x hm
      have := (hst e he).2
      have hf : xs.all (fun x => decide (x.born ≥ stepped)) = false := by
        rw [Bool.eq_false_iff]
        intro ha
        rw [Array.all_eq_true_iff_forall_mem] at ha
        have := ha x (Array.mem_toList_iff.1 hm)
        simp at this
        omega
      rw [hf, Bool.and_false]
  obtain ⟨left, hleft⟩ : ∃ left, left = xs.filter fun x => !seen.toArray.contains x.born := ⟨_, rfl⟩
  have hlm : ∀ x, x ∈ left → x ∈ xs.toList ∧ x.born ∉ seen := fun x hx => by
    rw [hleft, Array.mem_filter] at hx
    refine ⟨Array.mem_toList_iff.2 hx.1, ?_⟩
    simpa using hx.2
  have hold : left.filter (fun x => decide (x.born < since)) = left := by
    apply Array.filter_eq_self.2
    intro x hx
    obtain ⟨e, he, hb1, _⟩ := hborn x (hlm x hx).1
    have := (hst e he).1
    simp; omega
  have hnew : left.filter (fun x => decide (x.born ≥ since)) = #[] := by
    apply Array.filter_eq_empty_iff.2
    intro x hx
    obtain ⟨e, he, hb1, _⟩ := hborn x (hlm x hx).1
    have := (hst e he).1
    simp; omega
  obtain ⟨cand, hcand⟩ : ∃ cand : Array (Option MapEntry), cand = (if left.isEmpty then #[none] else #[]) ++ left.map some := ⟨_, rfl⟩
  obtain ⟨i, w', hch, hw', hi⟩ := run_chooseNext E.P c.w cand.size
  have hExt : Ext c ⟨c.ι, c.H, w'⟩ ∧ HR ⟨c.ι, c.H, w'⟩ ∧ w'.heap = c.w.heap := by
    rcases hw' with rfl | rfl
    · exact ⟨Ext.refl c, e3.hr, rfl⟩
    · exact ⟨Ext.drew c, e3.hr.drew, rfl⟩
  obtain ⟨hX, hHR, hheap⟩ := hExt
  have hib' : w'.heap[b]? = some (.mapIter (some mb) since seen.toArray stepped) := by rw [hheap]; exact hib
  have hpre : ∀ R : Result Value, (match cand[i]? with
      | some (some e) => (do setObj b (.mapIter (some mb) since (seen.toArray.push e.born) clk); pure (.tuple #[.bool true, e.key, e.val]) : Sem Value)
      | some none => pure (.tuple #[.bool false])
      | none => stuck "Next: no such candidate").run E.P w' = R → (execOp a.eval o).run E.P c.w = R.andThen fun v w => .ok (.value v) w := by
    rintro R rfl
    simp only [execOp, hop, hiv, Instr.next, Sem.run_bind, run_getIter hib, Result.andThen_ok, MapKept.run_getObj_map hxs]
    rw [if_neg (by rw [hguard]; simp)]
    simp only [Sem.run_bind, Sem.run_pure, Result.andThen_ok]
    rw [← hleft, hold, hnew, Array.append_empty, ← hcand, hch]
    simp only [Result.andThen_ok]
    rfl
  refine wpListIn_of (wanted_eq e4 hw) (fun cc e => by rw [hop] at e; cases e) ?_
  cases hle : left.isEmpty with
  | true =>
    have hl0 : left = #[] := by simpa using hle
    have hc : cand = #[none] := by rw [hcand, hl0]; simp
    have hi0 : i = 0 := by have := hi (by rw [hc]; decide); rw [hc] at this; simp at this; exact this
    rw [hpre (.ok (.tuple #[.bool false]) w') (by rw [hc, hi0]; rfl)]
    simp only [Result.andThen_ok]
    rw [Oper.uponIn_value, hd]
    refine (hend fun e he => ?_).out cd c0 ⟨c.ι, c.H, w'⟩ _ (e1.trans hX) e2 (e3.step hX hHR) ((e4.mono hX).put hdn (.tup [.bool false] rfl fun k => ?_)) (e5.mono hX rfl)
    · obtain ⟨k, hk⟩ := List.getElem?_of_mem he
      have hlt : k < xs.toList.length := by rw [← hent.1]; exact (List.getElem?_eq_some_iff.1 hk).1
      have h9 := (hent.2 k e _ hk (List.getElem?_eq_getElem hlt)).2.2
      apply Classical.byContradiction
      intro hns
      have : xs.toList[k] ∈ left := by
        rw [hleft, Array.mem_filter]
        refine ⟨Array.mem_toList_iff.1 (List.getElem_mem hlt), ?_⟩
        rw [h9]; simpa using hns
      rw [hl0] at this
      simp at this
    · rcases k with _ | k <;> intro u v h1 h2 <;> simp at h1 h2
      subst h1; subst h2; exact .bool
  | false =>
    have hc : cand = left.map some := by rw [hcand, hle]; simp
    have hsz : 0 < left.size := by
      apply Nat.pos_of_ne_zero
      intro h0
      have : left = #[] := Array.eq_empty_of_size_eq_zero h0
      rw [this] at hle
      simp at hle
    have hil : i < left.size := by have := hi (by rw [hc]; simpa using hsz); rw [hc] at this; simpa using this
    obtain ⟨x, hx⟩ : ∃ x, left[i]? = some x := ⟨left[i], Array.getElem?_eq_getElem hil⟩
    have hxm := hlm x (Array.mem_of_getElem? hx)
    obtain ⟨e, he, hb1, hb2, hb3⟩ := hborn x hxm.1
    have hcx : cand[i]? = some (some x) := by rw [hc, Array.getElem?_map, hx]; rfl
    have hlt := e3.hr.bound _ _ hb.choose_spec.2.2
    have hrun : (do setObj b (.mapIter (some mb) since (seen.toArray.push x.born) clk); pure (.tuple #[.bool true, x.key, x.val]) : Sem Value).run E.P w' = .ok (.tuple #[.bool true, x.key, x.val]) { w' with heap := w'.heap.setIfInBounds b (.mapIter (some mb) since (seen.toArray.push x.born) clk) } := by
      rw [Sem.run_bind, run_setIter _ hib']
      simp
    rw [hpre (.ok (.tuple #[.bool true, x.key, x.val]) { w' with heap := w'.heap.setIfInBounds b (.mapIter (some mb) since (seen.toArray.push x.born) clk) }) (by rw [hcx]; exact hrun)]
    simp only [Result.andThen_ok]
    rw [Oper.uponIn_value, hd]
    have hH1 : (⟨c.ι, c.H, w'⟩ : Cfg).H[p + q]? = some (.iter m j since seen stepped) := hI'
    have hι : (⟨c.ι, c.H, w'⟩ : Cfg).ι (p + q) = some b := hb.choose_spec.2.2
    have ht : Turned w' { w' with heap := w'.heap.setIfInBounds b (.mapIter (some mb) since (seen.toArray.push x.born) clk) } b := ⟨rfl, rfl, rfl, by simp, fun k hk => by simp [Array.getElem?_setIfInBounds, Ne.symm hk], fun n ⟨arr, e, fr, h', _⟩ => by rw [hib'] at h'; cases h'⟩
    have hE := Ext.upd (c := ⟨c.ι, c.H, w'⟩) (o' := .iter m j since (seen ++ [e.2.2]) clk) hHR hH1 hι rfl rfl rfl rfl (fun _ => trivial) ht
    have hR := HR.upd hHR hH1 hι rfl hE ht (o' := .iter m j since (seen ++ [e.2.2]) clk) ⟨mb, by
      show (w'.heap.setIfInBounds b _)[b]? = _
      have hs : seen.toArray.push x.born = (seen ++ [e.2.2]).toArray := by rw [hb1]; simp
      rw [hs]
      have : b < w'.heap.size := by rw [hheap]; exact hlt
      simp [this], hE.bx _ _ (hX.bx _ _ hmb)⟩
    have hXE := hX.trans hE
    have hk := (hnext e.1 e.2.1 e.2.2 he (by rw [← hb1]; exact hxm.2)).out cd c0 (Cfg.upd ⟨c.ι, c.H, w'⟩ (p + q) (.iter m j since (seen ++ [e.2.2]) clk) { w' with heap := w'.heap.setIfInBounds b (.mapIter (some mb) since (seen.toArray.push x.born) clk) }) (a.put (some d) (.tuple #[.bool true, x.key, x.val])) (e1.trans hXE) (by show c.H.set _ _ = _; rw [e2]) (e3.step hXE hR) ((e4.mono hXE).put hdn (.tup [.bool true, x.key, x.val] rfl fun k => ?_)) (e5.mono hXE rfl)
    · exact hk
    · exact (RelL.cons .bool (RelL.cons (hb2.mono hXE.toExt0) (RelL.cons (hb3.mono hXE.toExt0) (RelL.nil _)))).2 k

end
end Go.Gp
