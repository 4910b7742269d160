/- Part of a proof: GpA44, GpA45, GpA46, GpA49, GpA48, GpA52, GpA50, GpA51 -/
import Derived.Test.YtmacdhglhafldaaDoorK10
import Derived.Test.YtmacdhglhafldaaDoorK14
import Derived.Laws.MakeOwn

/- Slices from a place in an array; bytes copied; slices made of noughts. -/
namespace Go.Gp
open Go.RowKit
set_option linter.unusedVariables false
set_option linter.unusedSimpArgs false

theorem relL_bytes_inv {c : Cfg} : ∀ {s : List UInt8} {ws : List Value}, RelL c (s.map u8) ws → ws = s.map fun b => Value.int .u8 b.toNat
  | [], [], _ => rfl
  | [], _ :: _, h => by have := h.1; simp at this
  | _ :: _, [], h => by have := h.1; simp at this
  | b :: s, w :: ws, h => by
    have h1 := RelL.head h
    cases h1
    rw [List.map_cons, ← relL_bytes_inv (RelL.tail h)]

section
variable {E : Env} {ro : Option Nat} {n : Nat} {K : Kont} {t : Slots} {H H' H1 L X : List AObj} {ops : Array Oper} {o : Oper} {l rest : List Oper} {d : Nat} {av : AV}

theorem P1.sliceLo (p : Nat) {ty m q len : Nat} {j : TI} {x lo : Operand} {k : IntKind} {i : Int} (hop : o.op = .slice ty x (some lo) none none) (hs : arrayOf E.T ty = some (len, j)) (hx : evalA E.G t x = .ptr m q 0)
    (hi : evalA E.G t lo = .int k i) (hz : j.sz = 1) (hp : i = (p : Nat)) (hlt : p < len) : P1 E n X X o t (.os m q p 1 (len - p)) :=
  .still (fun cc e => by rw [hop] at e; cases e) (fun c a hH ho sr => by
    obtain ⟨e, hu, hj⟩ := arrayOf_spec hs
    have hxr := eval_rel ho sr x
    rw [hx] at hxr
    have hir := eval_rel ho sr lo
    rw [hi] at hir
    generalize hv : a.eval x = v at hxr
    generalize hv2 : a.eval lo = v2 at hir
    cases hir
    subst hp
    cases hxr with
    | ptr hb =>
      rename_i b
      refine ⟨_, ?_, .os hb (Nat.le_refl _)⟩
      have hne : ¬ len = p := by omega
      have hle : p ≤ len := by omega
      have hadd : (⟨b, 0, none⟩ : Addr).add p = ⟨b, p, none⟩ := by
        unfold Addr.add
        split
        · rename_i h0; subst h0; rfl
        · simp
      simp [execOp, hop, hv, hv2, Instr.sliceAt, run_underlying hu, Instr.sureAddr, Instr.sliceBounds, Instr.sliceBound, asIntOf, run_sizeOf hj, hz, hne, hle, hadd])

/-- What turns one place of what came in. -/
theorem P1.inB {k : Nat} {o0 o' : AObj} (hL : H[k]? = some o0) (h : P1 E n (H ++ L) ((H ++ L).set k o') o t av) : P1 E n (H ++ L) (H.set k o' ++ L) o t av := by rw [setL hL] at h; exact h
theorem U1.inB {k : Nat} {o0 o' : AObj} (hL : H[k]? = some o0) (h : U1 E n (H ++ L) ((H ++ L).set k o') o t) : U1 E n (H ++ L) (H.set k o' ++ L) o t := by rw [setL hL] at h; exact h
theorem WpOps.p1h (H2 : List AObj) (hw : wantedA ops t o = some true) (hd : o.dst = some d) (hdn : Nat.blt d n = true) (h : P1 E n H H1 o t av) (he : H1 = H2) (hk : WpOps E ro n ops rest K ((d, av) :: t) H2) : WpOps E ro n ops (o :: rest) K t H := by subst he; exact .p1 hw hd hdn h hk
theorem WpOps.u1h (H2 : List AObj) (hw : wantedA ops t o = some true) (hd : o.dst = none) (h : U1 E n H H1 o t) (he : H1 = H2) (hk : WpOps E ro n ops rest K t H2) : WpOps E ro n ops (o :: rest) K t H := by subst he; exact .u1 hw hd h hk

/-- Bytes are copied into a box. -/
theorem P1.copyB {ty tx e m j off len : Nat} {i : TI} {x y : Operand} {tg : Tag} (s : List UInt8) {ys : List (List AV)} {cs : List AV} (hop : o.op = .call { callee := .builtin .copy, args := ⟨[x, y]⟩, argTypes := ⟨[ty, tx]⟩ }) (hs : sliceOf E.T ty = some (e, i)) (hz : i.sz = 1)
    (hx : evalA E.G t x = .os m j off 1 len) (hL : X[m + j]? = some (.cells cs)) (hle : off + len ≤ cs.length) (hy : evalA E.G t y = .sl tg 1 ys) (hys : ys = s.map byteRow) :
    P1 E n X (X.set (m + j) (.cells (putA cs off ((s.take (min s.length len)).map u8)))) o t (.int .i64 (min s.length len : Nat)) :=
  ⟨fun cc e => (by rw [hop] at e; cases e), fun c a hH ho sr => by
    subst hys
    have hxr := eval_rel ho sr x
    rw [hx] at hxr
    have hyr := eval_rel ho sr y
    rw [hy] at hyr
    obtain ⟨vs, q1, q2, q3, q4⟩ := src_sl hyr
    generalize hv : a.eval x = v at hxr
    generalize hu : a.eval y = u at hyr q1 q2 q3 q4
    have hcells : ∀ k, k ≤ s.length → (Builtin.firstCells 1 k u).run E.P c.w = .ok ((s.take k).map fun b => Value.int .u8 b.toNat).toArray c.w := fun k hk => by
      cases hyr with
      | sl vs hl hc hz ht hf hr =>
        rename_i ad len' cap'
        rw [List.length_map] at hl
        have h1 : RelV c (.sl .no 1 ((s.take k).map byteRow)) (.slice ad k cap') := .sl vs (by simp; omega) (by omega) (fun x hx => by obtain ⟨b, _, rfl⟩ := List.mem_map.1 hx; rfl) trivial (fun i q hi hq => hf i q (by omega) hq) (fun i q l e h1 h2 => hr i q l e (by
          rw [List.getElem?_map] at h1 ⊢
          rw [List.getElem?_take] at h1
          split at h1
          · exact h1
          · cases h1) h2)
        obtain ⟨ws, w1, w2, w3, w4⟩ := src_sl h1
        rw [flat_bytes] at w1
        have e1 : ws = (s.take k).map fun b => Value.int .u8 b.toNat := relL_bytes_inv w1
        have := w4 E.P c.w rfl
        rw [e1, List.length_map, List.length_take, Nat.min_eq_left hk] at this
        cases ad <;> exact this
    cases hxr with
    | os hb hc =>
      rename_i b cap
      obtain ⟨o', h1, h2, h3⟩ := hb
      have hcs : c.H[m + j]? = some (.cells cs) := by rw [hH]; exact hL
      obtain ⟨w', hrun, hx, hh⟩ := put_sound (P := E.P) (off := off) (as := (s.take (min s.length len)).map u8) ho.hr hcs h3 (relL_bytes c _) (fun a ha => by obtain ⟨q, _, rfl⟩ := List.mem_map.1 ha; rfl) (by simp; omega)
      unfold Cfg.upd at hx hh
      rw [hH] at hx hh
      refine ⟨_, _, w', ?_, hx, hh, .int⟩
      obtain ⟨hus, hj⟩ := sliceOf_spec hs
      have hmin : Nat.min s.length len = min s.length len := rfl
      have hlen : (Builtin.lenOf u).run E.P c.w = .ok s.length c.w := by have := q3 E.P c.w; simpa using this
      simp only [execOp, hop, resolve, invoke, builtin, List.map_toArray, List.map_cons, List.map_nil, hv, hu, Builtin.copy_, Sem.run_bind, Sem.run_pure, Result.andThen_ok]
      simp only [List.getElem?_toArray, List.getElem?_cons_zero, List.getElem?_cons_succ, Sem.run_bind, Sem.run_pure, Result.andThen_ok, run_underlying hus, hlen, run_sizeOf hj, hz, hmin, hcells _ (Nat.min_le_left _ _), hrun]
      rfl⟩

/-- A slice made of noughts. -/
theorem P1.mkSl (q : Nat) {ty e : Nat} {j : TI} {lx cx : Operand} {k k' : IntKind} {i i' : Int} {v0 : AV} (hop : o.op = .makeSlice ty lx cx) (hs : sliceOf E.T ty = some (e, j)) (hz : j.sz = 1) (hzs : zeroA j = some [v0]) (hzc : j.zero.cells.size = 1)
    (hl : evalA E.G t lx = .int k i) (hc : evalA E.G t cx = .int k' i') (hi : i = (q : Nat)) (hi' : i' = (q : Nat)) (hq : q < 4611686018427387904) (hcl : q ≤ 16777216) (hfit : q * j.bytes ≤ 140737488355328) : P1 E n X X o t (.sl .full 1 (List.replicate q [v0])) :=
  ⟨fun cc e => (by rw [hop] at e; cases e), fun c a hH ho sr => by
    obtain ⟨hu, hj⟩ := sliceOf_spec hs
    obtain ⟨info, hinfo, hi1, hi2, hi3⟩ := ext_info hj
    have hlr := eval_rel ho sr lx
    rw [hl] at hlr
    have hcr := eval_rel ho sr cx
    rw [hc] at hcr
    subst hi hi'
    generalize hv : a.eval lx = v at hlr
    generalize hw : a.eval cx = w at hcr
    cases hlr; cases hcr
    have hzr := cellsA_rel (constA_rel c j.zero) hzs
    obtain ⟨zv, hzv⟩ : ∃ zv, j.zero.cells = #[zv] := by
      match h : j.zero.cells, hzc with
      | ⟨[zv]⟩, _ => exact ⟨zv, rfl⟩
    rw [hzv] at hzr
    have hzr' : RelV c v0 zv := hzr.head
    have hrun := run_makeSlice (P := E.P) c.w ty e info j.zero hu hinfo hi1 k k' q q (Int.natCast_nonneg q) (Int.le_refl _) (by rw [hi2, hz]; simpa using hcl) (by
      rw [hi3]
      have h9 : ((j.bytes * q : Nat) : Int) ≤ 281474976710656 := by have := Nat.mul_comm q j.bytes; omega
      rwa [Int.natCast_mul] at h9) (by omega)
    rw [hi2, hz, hzv, Int.toNat_natCast, Nat.mul_one] at hrun
    have hrow : madeCells #[zv] q = Array.replicate q zv := by
      apply Array.ext_getElem?
      intro x
      by_cases hx : x < q
      · simp [madeCells, hx, Array.getElem?_replicate, Nat.mod_one]
      · simp [madeCells, hx, Array.getElem?_replicate]
    rw [hrow] at hrun
    refine ⟨.slice (some ⟨c.w.heap.size, 0, none⟩) q q, c.ι, c.w.alloc (.cells (Array.replicate q zv) e), by simp [execOp, hop, hv, hw, hrun], by rw [← hH]; exact Ext.push c _ ho.hr, by rw [← hH]; exact ho.hr.push _, ?_⟩
    rw [← hH]
    refine mk_sl (c := c.push (.cells (Array.replicate q zv) e)) (ws := List.replicate q zv) (by simp) (Nat.le_refl _) (fun x hx => by have := (List.mem_replicate.1 hx).2; subst this; rfl) rfl ?_ (fun x u hx => ?_)
    · have hfl : (List.replicate q [v0]).flatten = List.replicate q v0 := by
        have : ∀ k : Nat, (List.replicate k [v0]).flatten = List.replicate k v0 := fun k => by
          induction k with
          | zero => rfl
          | succ k ih => rw [List.replicate_succ, List.flatten_cons, ih, List.replicate_succ]; rfl
        exact this q
      rw [hfl]
      refine ⟨by simp, fun x a0 u h1 h2 => ?_⟩
      rw [List.getElem?_replicate] at h1 h2
      split at h1
      · rename_i hx
        rw [if_pos hx] at h2
        injection h1 with h1; injection h2 with h2
        subst h1; subst h2
        exact hzr'.mono (Ext.push c _ ho.hr).toExt0
      · cases h1
    · refine new_fz ho.hr ?_
      rw [Array.getElem?_replicate]
      rw [List.getElem?_replicate] at hx
      exact hx⟩
end
end Go.Gp

/- Results and heaps said otherwise. -/
namespace Go.Gp
open Go.RowKit
set_option linter.unusedVariables false
set_option linter.unusedSimpArgs false

theorem Sub.map {m j m' j' : Nat} (h : m + j = m' + j') : Sub (.map m j) (.map m' j') := fun c x hr => by
  cases hr with
  | map hb => exact .map (h ▸ hb)
theorem Sub.func {g : FuncId} {us vs : List AV} (h : SubL us vs) : Sub (.func g us) (.func g vs) := fun c x hr => by
  cases hr with
  | func ws hl hr =>
    have := SubL.rel h ⟨hl, hr⟩
    exact .func ws this.1 this.2

/-- A call whose result is said otherwise. -/
theorem CallsA.reR {E : Env} {g : FuncId} {xs : List AV} {H H1 H2 : List AObj} {r0 r : AV} (h : CallsA E g xs H (fun e H' => H' = H1 ∧ e = .ret r0)) (hs : Sub r0 r) (hH : H1 = H2) : CallsA E g xs H (fun e H' => H' = H2 ∧ e = .ret r) := by
  subst hH
  refine ⟨?_⟩
  intro c vs e1 e2 e3
  have h2 := h.out c vs e1 e2 e3
  have hfin : ∀ e w, PostC E.G c (fun e H' => H' = H1 ∧ e = .ret r0) e w → PostC E.G c (fun e H' => H' = H1 ∧ e = .ret r) e w := by
    rintro e w ⟨ι, H', x, a1, a2, a3, rfl, rfl⟩
    refine ⟨ι, H', .ret r, a1, a2, ?_, rfl, rfl⟩
    cases e with
    | panicked _ => exact a3.elim
    | outgrown => exact a3.elim
    | returned v => exact hs _ _ a3
  unfold UponC at h2 ⊢
  split at h2
  · exact Calls.mono h2 hfin
  · exact hfin _ _ h2
  · exact h2.elim
theorem WpOps.heap {E : Env} {ro : Option Nat} {n : Nat} {K : Kont} {t : Slots} {H H' : List AObj} {ops : Array Oper} {l : List Oper} (h : H = H') (hw : WpOps E ro n ops l K t H') : WpOps E ro n ops l K t H := by subst h; exact hw
/-- What a slot holds speaks of what is there. -/
theorem WpA.knowBd {E : Env} {ro : Option Nat} {n : Nat} {K : Kont} {t : Slots} {H : List AObj} {code : Code} (d : Nat) (h : Bd H.length (look t d) → WpA E ro n code K t H) : WpA E ro n code K t H := by
  refine ⟨?_⟩
  intro cd c0 c a e1 e2 e3 e4 e5
  have hb := (e4.rel d).bd
  rw [e2] at hb
  exact (h hb).out cd c0 c a e1 e2 e3 e4 e5
section
variable {E : Env} {ro : Option Nat} {n : Nat} {K : Kont} {t : Slots} {H H' H1 L X : List AObj} {ops : Array Oper} {o : Oper} {l rest : List Oper} {d : Nat} {av : AV}
theorem P1.lookupV {ty m j : Nat} {x ix : Operand} {ki ei : TI} {es : List AEntry} {clk : Nat} {k : AV} (hop : o.op = .lookup ty x ix false) (hs : mapOf E.T ty = some (ki, ei)) (hx : evalA E.G t x = .map m j)
    (hH : X[m + j]? = some (.map es clk)) (hi : evalA E.G t ix = k) (hk : keyK ki.d k = true) (hes : ∀ e ∈ es, keyK ki.d e.1 = true) (hv : (lookM ei es k).1 = av) : P1 E n X X o t av := by
  have h := P1.lookup (E := E) (n := n) (t := t) false hop hs hx hH hi hk hes
  rw [cond_false, hv] at h
  exact h
end

end Go.Gp

/- Loops over iterators whose items come in a known order. -/
namespace Go.Gp
open Go.RowKit
set_option linter.unusedVariables false
set_option linter.unusedSimpArgs false

/-- As YldsG; what is asked looks at all items that have come. -/
structure YldsQ (E : Env) (y : AV) {σ ι : Type} (args : ι → List AV) (pr : ι → List AObj → Prop) (Hf : σ → List AObj) (f : σ → ι → Bool × σ) (ok : List ι → σ → Prop) (PH : List ι → Prop) : Prop where
  app : ∀ h s x X, ok h s → PH (h ++ [x]) → pr x (Hf s ++ X) → AppA E y (args x) (Hf s ++ X) (fun e H' => e = .ret (.bool (f s x).1) ∧ H' = Hf (f s x).2 ++ X)
  next : ∀ h s x, ok h s → PH (h ++ [x]) → (f s x).1 = true → ok (h ++ [x]) (f s x).2
  len : ∀ s s', (Hf s).length = (Hf s').length
  tr : ∀ s s' X, TrOk (Hf s ++ X) (Hf s' ++ X)
def IterQ (E : Env) (g : Nat) (caps : List AV) (pre : List AObj → Prop) (al : Bool) {ι : Type} (args : ι → List AV) (pr : ι → List AObj → Prop) (PH Q : List ι → Prop) : Prop :=
  ∀ (yn yj : Nat) (σ : Type) (Hf : σ → List AObj) (f : σ → ι → Bool × σ) (ok : List ι → σ → Prop), YldsQ E (.yld yn yj) args pr Hf f ok PH → (∀ s X, pre (Hf s ++ X)) → (al = true → ∀ h s x, ok h s → PH (h ++ [x]) → (f s x).1 = true) → ∀ s X, ok [] s →
    CallsA E g ([.yld yn yj] ++ caps) (Hf s ++ X) (fun e H' => e = .ret (.tup []) ∧ ∃ its, Q its ∧ H' = Hf (runIt f s its) ++ X)

theorem WpOps.p1n {E : Env} {ro : Option Nat} {n : Nat} {K : Kont} {t : Slots} {H H1 : List AObj} {ops : Array Oper} {o : Oper} {rest : List Oper} {av : AV} (hw : wantedA ops t o = some true) (hd : o.dst = none) (h : P1 E n H H1 o t av) (hk : WpOps E ro n ops rest K t H1) : WpOps E ro n ops (o :: rest) K t H := by
  refine ⟨?_⟩
  intro cd c0 c a e1 e2 e3 e4 e5
  obtain ⟨v, ι', w', hr, hx, hh, hv⟩ := h.out c a e2 e3 e4
  refine wpListIn_of (wanted_eq e4 hw) h.nd ?_
  rw [hr, Oper.uponIn_value, hd]
  exact hk.out cd c0 ⟨ι', H1, w'⟩ _ (e1.trans hx) rfl (e3.step hx hh) (e4.mono hx) (e5.mono hx rfl)
theorem P1.inL {E : Env} {n k : Nat} {t : Slots} {H L : List AObj} {o : Oper} {av : AV} {o' : AObj} (h : P1 E n (H ++ L) ((H ++ L).set (H.length + k) o') o t av) : P1 E n (H ++ L) (H ++ L.set k o') o t av := by rw [set_app] at h; exact h
theorem set_mid {H L0 R : List AObj} {k : Nat} {o : AObj} (h : k < L0.length) : ((H ++ L0) ++ R).set (H.length + k) o = (H ++ L0.set k o) ++ R := by
  rw [List.set_append_left _ _ (by rw [List.length_append]; omega), List.set_append_right _ _ (by omega)]
  simp
theorem get_mid {H L0 R : List AObj} {k : Nat} {o : AObj} (h : L0[k]? = some o) : ((H ++ L0) ++ R)[H.length + k]? = some o := getL (app_get rfl h)

section ranges
variable {E : Env} {n : Nat} {K : Kont} {t : Slots}

theorem WpA.rangeQ {σ ι : Type} {g : Operand} {pl : List Tmp} {assign body : Code} {q : Nat} {caps : List AV} {fn : Func} {code : Code} {args : ι → List AV} {pr : ι → List AObj → Prop} {PH Q : List ι → Prop} (Hf : σ → List AObj) (step : σ → ι → σ × Option Code) (ok : List ι → σ → Prop) (s0 : σ) {N : Nat}
    (hg : evalA E.G t g = .func q caps) (hf : E.P.funcs[q]? = some fn) (hb : fn.body = some code) (hnm : (fn.name == "runtime.NumGoroutine") = false)
    {pre : List AObj → Prop} {al : Bool} (hI : IterQ E q caps pre al args pr PH Q) (hpre : ∀ s X, pre (Hf s ++ X)) (h0 : ok [] s0) (hN : ∀ s, (Hf s).length = N)
    (htr' : ∀ s s', ∀ (i : Nat) o, (Hf s')[i]? = some o → (Hf s)[i]? = some o ∨ OBd N o) (hts : BdS N t)
    (hpl : ∀ h x, PH (h ++ [x]) → pl.length = (args x).length) (hpn : ∀ p ∈ pl, p < n)
    (hnx : ∀ h s x, ok h s → PH (h ++ [x]) → (step s x).2 = none → ok (h ++ [x]) (step s x).1)
    (hr : ∀ (rec : LoopState → Option Code → AObj) l h s x X, (∀ st p cs, rec st p ≠ .cells cs) → ok h s → PH (h ++ [x]) → ∀ B B' : List AObj, B = Hf s ++ (rec .ready none :: X) → B' = Hf s ++ (rec .busy none :: X) → B.length = B'.length → pr x B →
      WpA E (some l) n assign (fun x1 t1 H1 => x1 = .normal ∧ ∃ La, H1 = B ++ La ∧ WpA E (some l) n body (rndK Hf rec X (step s x)) t1 (B' ++ La)) (putPs pl (args x) t) (B ++ []))
    (hk : ∀ (rec : LoopState → Option Code → AObj) its, Q its → pendK K t (Hf (runStep step s0 its).1 ++ [rec .exhausted (runStep step s0 its).2]) (runStep step s0 its).2) (hal : al = true → ∀ h s x, ok h s → PH (h ++ [x]) → (step s x).2 = none) (hmk : E.marks = true := by rfl) :
    WpA E none n (.rangeFunc g pl.toArray assign body) K t (Hf s0) := by
  refine WpA.rangeF hg hf hb hnm (fun fn' tmps r hn => ?_) hmk
  let rec' := lobj fn' tmps pl.toArray assign body r t
  let st : Option Code → LoopState := fun j => if j.isNone then .ready else .done
  let Hg : σ × Option Code → List AObj := fun p => Hf p.1 ++ [rec' (st p.2) p.2]
  let f : σ × Option Code → ι → Bool × (σ × Option Code) := fun p x => ((step p.1 x).2.isNone, step p.1 x)
  have hrl : ∀ stt pend, OBd N (rec' stt pend) := fun stt pend => ⟨fun cs e => (by cases e), fun es k e => (by cases e), fun r' t' e k => (by injection e with _ e; subst e; exact hts.look k), fun _ _ _ _ _ e => (by cases e)⟩
  have hle : ∀ {a b : Nat} {o : AObj}, a ≤ b → OBd a o → OBd b o := fun hab ho => ⟨fun cs e a ha => (ho.1 cs e a ha).le hab, fun es k e x hx => ⟨(ho.2.1 es k e x hx).1.le hab, (ho.2.1 es k e x hx).2.le hab⟩, fun r t e i => (ho.2.2.1 r t e i).le hab, fun m j a s q e => Nat.lt_of_lt_of_le (ho.2.2.2 m j a s q e) hab⟩
  have hy : YldsQ E (.yld (Hf s0).length 0) args pr Hg f (fun h p => ok h p.1 ∧ p.2 = none) PH := by
    refine ⟨?_, ?_, ?_, ?_⟩
    · rintro h ⟨s, pd⟩ x X ⟨hs, rfl⟩ hx hpr
      have hidx : (Hf s0).length + 0 = (Hf s).length := by rw [hN, hN]; rfl
      refine AppA.round (r := { state := .ready, pending := none, fn := fn', tmps := tmps, params := pl.toArray, assign := assign, body := body, defers := r }) (ts := t) (n := n) pl ?_ rfl hn rfl (hpl h x hx) hpn fun l => ?_
      · show (Hf s ++ [rec' .ready none] ++ X)[(Hf s0).length + 0]? = _
        rw [hidx, List.append_assoc, List.getElem?_append_right (Nat.le_refl _), Nat.sub_self]
        rfl
      · have he : Hg (s, none) ++ X = Hf s ++ (rec' .ready none :: X) := by show Hf s ++ [rec' .ready none] ++ X = _; rw [List.append_assoc]; rfl
        have := hr rec' l h s x X (fun _ _ _ e => by cases e) hs hx _ _ rfl rfl (by simp) (by rw [← he]; exact hpr)
        rw [he]
        rw [List.append_nil] at this
        refine this.mono ?_
        rintro x1 t1 H1 ⟨rfl, La, rfl, hw⟩
        have hset : ∀ (s1 : σ) (o o' : AObj), (Hf s1 ++ (o :: X)).set ((Hf s0).length + 0) o' = Hf s1 ++ (o' :: X) := fun s1 o o' => by
          rw [show (Hf s0).length + 0 = (Hf s1).length from by rw [hN, hN]; rfl, List.set_append_right _ _ (Nat.le_refl _), Nat.sub_self]
          rfl
        have hget : ∀ (s1 : σ) (o : AObj), (Hf s1 ++ (o :: X))[(Hf s0).length + 0]? = some o := fun s1 o => by
          rw [show (Hf s0).length + 0 = (Hf s1).length from by rw [hN, hN]; rfl, List.getElem?_append_right (Nat.le_refl _), Nat.sub_self]
          rfl
        have hlt : (Hf s0).length + 0 < (Hf s ++ (rec' .ready none :: X)).length := by simp [hN]
        refine ⟨rfl, by rw [List.getElem?_append_left hlt]; exact hget s _, ?_⟩
        rw [List.set_append_left _ _ hlt, hset]
        refine hw.mono ?_
        rintro x2 t2 H2 ⟨L, rfl, hx2⟩
        have hkeep : ∀ (i : Nat) o, i ≠ (Hf s0).length + 0 → (Hf (step s x).1 ++ (rec' .busy none :: X))[i]? = some o → (Hf s ++ (rec' .ready none :: X))[i]? = some o ∨ OBd (Hf s ++ (rec' .ready none :: X)).length o := by
          intro i o hne hi
          rcases Nat.lt_or_ge i N with hlt | hge
          · rw [List.getElem?_append_left (by rw [hN]; exact hlt)] at hi
            rcases htr' s _ i o hi with h1 | h1
            · exact .inl (by rw [List.getElem?_append_left (by rw [hN]; exact hlt)]; exact h1)
            · exact .inr (hle (by simp [hN]) h1)
          · rw [List.getElem?_append_right (by rw [hN]; exact hge), hN] at hi
            refine .inl ?_
            rw [List.getElem?_append_right (by rw [hN]; exact hge), hN]
            obtain ⟨d, hd⟩ : ∃ d, i - N = d + 1 := ⟨i - N - 1, by have := hN s0; omega⟩
            rw [hd] at hi ⊢
            exact hi
        have hlen : (Hf (step s x).1 ++ (rec' .busy none :: X)).length = (Hf s ++ (rec' .ready none :: X)).length := by simp [hN]
        have hfin : ∀ pend, (step s x).2 = pend → (Hf (step s x).1 ++ (rec' .busy none :: X)).set ((Hf s0).length + 0) (rec' (st pend) pend) = Hg (f (s, none) x).2 ++ X := by
          rintro pend rfl
          rw [hset]
          show _ = Hf (step s x).1 ++ [rec' (st (step s x).2) (step s x).2] ++ X
          rw [List.append_assoc]
          rfl
        cases x2 with
        | panic v => exact hx2.elim
        | normal =>
          have e1 : (step s x).2 = none := hx2
          refine ⟨.ready, none, _, L, rfl, hlen, hget _ _, hkeep, rfl, rfl, ?_, ?_⟩
          · show AEnd.ret (.bool true) = .ret (.bool (step s x).2.isNone)
            rw [e1]; rfl
          · exact hfin none e1
        | ret =>
          have e1 : (step s x).2 = some .ret := hx2
          refine ⟨.done, some .ret, _, L, rfl, hlen, hget _ _, hkeep, rfl, rfl, ?_, ?_⟩
          · show AEnd.ret (.bool false) = .ret (.bool (step s x).2.isNone)
            rw [e1]; rfl
          · exact hfin _ e1
        | exit i =>
          have e1 : (step s x).2 = some (.exit i) := hx2
          refine ⟨.done, some (.exit i), _, L, rfl, hlen, hget _ _, hkeep, rfl, rfl, ?_, ?_⟩
          · show AEnd.ret (.bool false) = .ret (.bool (step s x).2.isNone)
            rw [e1]; rfl
          · exact hfin _ e1
    · rintro h ⟨s, pd⟩ x ⟨hs, rfl⟩ hx hf
      have e1 : (step s x).2 = none := by simpa [f] using hf
      exact ⟨hnx h s x hs hx e1, e1⟩
    · rintro ⟨s, p⟩ ⟨s', p'⟩
      simp [Hg, hN]
    · rintro ⟨s, p⟩ ⟨s', p'⟩ X i o hi
      have hi' : (Hf s' ++ (rec' (st p') p' :: X))[i]? = some o := by
        have : Hg (s', p') ++ X = Hf s' ++ (rec' (st p') p' :: X) := by show Hf s' ++ [_] ++ X = _; rw [List.append_assoc]; rfl
        rw [← this]; exact hi
      have he : Hg (s, p) ++ X = Hf s ++ (rec' (st p) p :: X) := by show Hf s ++ [_] ++ X = _; rw [List.append_assoc]; rfl
      rw [he]
      rcases Nat.lt_or_ge i N with hlt | hge
      · rw [List.getElem?_append_left (by rw [hN]; exact hlt)] at hi'
        rcases htr' s _ i o hi' with h1 | h1
        · exact .inl (by rw [List.getElem?_append_left (by rw [hN]; exact hlt)]; exact h1)
        · exact .inr (hle (by simp [hN]) h1)
      · rw [List.getElem?_append_right (by rw [hN]; exact hge), hN] at hi'
        rw [List.getElem?_append_right (by rw [hN]; exact hge), hN]
        cases hd : i - N with
        | zero =>
          rw [hd] at hi'
          injection hi' with hi'
          subst hi'
          exact .inr (hle (by simp [hN]) (hrl _ _))
        | succ d => rw [hd] at hi'; exact .inl hi'
  have hrun : ∀ (its : List ι) (s : σ), runIt f (s, none) its = runStep step s its := by
    intro its
    induction its with
    | nil => intro s; rfl
    | cons x xs ih =>
      intro s
      unfold runIt runStep
      cases hst : step s x with
      | mk s' j =>
        have hf1 : f (s, none) x = (j.isNone, (s', j)) := by show ((step s x).2.isNone, step s x) = _; rw [hst]
        rw [hf1]
        cases j with
        | none => exact ih s'
        | some j => rfl
  have h := hI _ _ _ Hg f _ hy (fun p X => by show pre (Hf p.1 ++ [_] ++ X); rw [List.append_assoc]; exact hpre _ _) (fun ha h p x hp hx => by show (step p.1 x).2.isNone = true; rw [hal ha h p.1 x hp.1 hx]; rfl) (s0, none) [] ⟨h0, rfl⟩
  · have hHg : Hg (s0, none) ++ [] = Hf s0 ++ [lobj fn' tmps pl.toArray assign body r t .ready none] := by rw [List.append_nil]; rfl
    rw [hHg] at h
    refine h.mono ?_
    rintro e H' ⟨rfl, its, hPi, rfl⟩
    rw [hrun, List.append_nil]
    have hget : (Hg (runStep step s0 its))[(Hf s0).length]? = some (rec' (st (runStep step s0 its).2) (runStep step s0 its).2) := by
      show (Hf _ ++ [_])[_]? = _
      rw [hN s0, ← hN (runStep step s0 its).1, List.getElem?_append_right (Nat.le_refl _), Nat.sub_self]
      rfl
    refine ⟨⟨_, rfl⟩, _, _, hget, ?_, ?_⟩
    · show st _ ≠ _
      simp only [st]
      split <;> simp
    · have : (Hg (runStep step s0 its)).set (Hf s0).length (lobj fn' tmps pl.toArray assign body r t .exhausted (runStep step s0 its).2) = Hf (runStep step s0 its).1 ++ [rec' .exhausted (runStep step s0 its).2] := by
        show (Hf _ ++ [_]).set _ _ = _
        rw [hN s0, ← hN (runStep step s0 its).1, List.set_append_right _ _ (Nat.le_refl _), Nat.sub_self]
        rfl
      rw [this]
      exact hk rec' its hPi

end ranges
end Go.Gp

/- A box of its own that is given up: its pointer reads what is frozen. -/
namespace Go.Gp
set_option linter.unusedVariables false
set_option linter.unusedSimpArgs false
theorem RelV.killP {c : Cfg} {m q : Nat} {cs : List AV} {v : Value} (h : HR c) (hH : c.H[m + q]? = some (.cells cs)) (hr : RelV c (.ptr m q 0) v) : RelV (c.kill (m + q)) (.rp cs) v := by
  have hid := get_lt hH
  have hx := Ext.kill h hH
  cases hr with
  | ptr hb =>
    rename_i b
    obtain ⟨o', g1, g2, g3⟩ := hb
    obtain ⟨arr, e, vs, h1, h2, h3, h4, h5⟩ := box_cells h hH g3
    have hvl : vs.length = cs.length := h3.1.symm
    refine .rp (fun i => (vs[i]?).getD undef) rfl (fun i hi => ?_) (fun i e he => ?_)
    · have hv : vs[i]? = some (vs[i]'(by omega)) := List.getElem?_eq_getElem (by omega)
      have e2 : (⟨b, 0, none⟩ : Addr).add i = ⟨b, i, none⟩ := by
        unfold Addr.add
        split
        · rename_i h0; rw [h0]
        · simp
      rw [e2, hv]
      refine ⟨cell?_of h1 (h4 _ _ hv), ?_⟩
      rintro ⟨k, x, w1, w2, w3⟩
      rcases (set_get hid).1 w1 with ⟨rfl, rfl⟩ | ⟨hne, w1⟩
      · exact w3
      · have hl1 : x.live = true := by cases x <;> first | rfl | exact w3.elim
        exact hne (h.inj k (m + q) b _ _ w1 hH hl1 rfl w2 g3)
    · obtain ⟨u, hu, hru⟩ := h3.get he
      simp only [hu, Option.getD_some]
      exact hru.mono hx.toExt0

section
variable {E : Env} {ro : Option Nat} {n : Nat} {K : Kont} {t : Slots} {H L : List AObj}
theorem WpA.freezeP {code : Code} {d j : Nat} {cs : List AV} (hd : look t d = .ptr H.length j 0) (hL : L[j]? = some (.cells cs)) (h : WpA E ro n code K ((d, .rp cs) :: t) (H ++ L.set j .dead)) : WpA E ro n code K t (H ++ L) := by
  refine ⟨?_⟩
  intro cd c0 c a e1 e2 e3 e4 e5
  have hcs : c.H[H.length + j]? = some (.cells cs) := by rw [e2]; exact app_get rfl hL
  have hx := Ext.kill e3.hr hcs
  have hh := e3.hr.kill hcs
  refine h.out cd c0 (c.kill (H.length + j)) a (e1.trans hx) (by show c.H.set _ _ = _; rw [e2, set_app]) (e3.step hx hh) ⟨e4.size, fun i => ?_⟩ (e5.mono hx rfl)
  show RelV _ (bif Nat.beq d i then _ else look t i) _
  cases hb : Nat.beq d i with
  | true =>
    have := Nat.eq_of_beq_eq_true hb
    subst this
    have hr := e4.rel d
    rw [hd] at hr
    exact RelV.killP e3.hr hcs hr
  | false => exact (e4.rel i).mono hx.toExt0
end
end Go.Gp

/- Rows laid flat: one row put in place of another. -/
namespace Go.Gp
set_option linter.unusedVariables false
set_option linter.unusedSimpArgs false
theorem chunk_flat (z : Nat) : ∀ (rs : List (List AV)), (∀ x ∈ rs, x.length = z) → chunkA z rs.length rs.flatten = rs
  | [], _ => rfl
  | x :: rs, hz => by
    have hx := hz x List.mem_cons_self
    have ih := chunk_flat z rs (fun y hy => hz y (List.mem_cons_of_mem _ hy))
    rw [List.flatten_cons, List.length_cons]
    show (x ++ rs.flatten).take z :: chunkA z rs.length ((x ++ rs.flatten).drop z) = _
    rw [← hx, List.take_left, List.drop_left, hx, ih]
end Go.Gp

/- A statement and what follows it, apart. -/
namespace Go.Gp
set_option linter.unusedVariables false
theorem WpA.cutS {E : Env} {ro : Option Nat} {n : Nat} {K : Kont} {t : Slots} {H : List AObj} {code rest : Code} (T : Slots) (H1 : List AObj)
    (h : WpA E ro n code (fun x t' H' => x = .normal ∧ Agree T t' ∧ H' = H1) t H) (hrest : WpA E ro n rest K T H1) : WpA E ro n (.seq code rest) K t H := by
  refine WpA.seq (h.mono fun x t' H' h => ?_)
  obtain ⟨e1, e2, e3⟩ := h
  subst e1; subst e3
  exact hrest.weak e2
end Go.Gp




