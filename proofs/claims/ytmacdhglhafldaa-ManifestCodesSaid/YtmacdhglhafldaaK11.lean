/- Part of a proof: GpA30, GpA31, GpA32, GpA33 -/
import Derived.Test.YtmacdhglhafldaaK10

/- Rows that came in; nil handed on as a row; what is cut off behind a call. -/
namespace Go.Gp
open Go.RowKit
set_option linter.unusedVariables false
set_option linter.unusedSimpArgs false

section
variable {E : Env} {ro : Option Nat} {n : Nat} {K : Kont} {t : Slots} {H H' H1 L : List AObj} {ops : Array Oper} {o : Oper} {l rest : List Oper} {cl : List Nat} {k d : Nat} {av : AV} {Kc : Slots → List AObj → Prop}

/-- An append to a row whose tail came in. -/
theorem P1.appX {ty tx e z m j : Nat} {i ix : TI} {p q : Operand} {xs ys : List (List AV)}
    (hop : o.op = .call { callee := .builtin .append, args := ⟨[p, q]⟩, argTypes := ⟨[ty, tx]⟩ }) (hs : sliceOf E.T ty = some (e, i)) (hz : i.sz = z) (hx : lookT E.T tx = some ix) (hd : ∀ k, ix.d ≠ .int k)
    (hb : Nat.blt 0 i.bytes = true) (hz0 : Nat.blt 0 z = true) (hzs : Nat.beq i.zero.cells.size z = true) (hp : evalA E.G t p = .sl (.row m j) z xs) (hL : H[m + j]? = some (.tail xs.length z)) (hq : srcA z (evalA E.G t q) = some ys) (hone : ∀ y ∈ ys, ∀ a ∈ y, a.one = true)
    (hfit : (xs.length + ys.length) * i.bytes ≤ 140737488355328) :
    P1 E n (H ++ L) (H.set (m + j) (.tail (xs ++ ys).length z) ++ L) o t (.sl (.row m j) z (xs ++ ys)) :=
  ⟨fun cc e => (by rw [hop] at e; cases e), fun c a hH ho sr => by
    subst hz
    have hpr := eval_rel ho sr p
    rw [hp] at hpr
    have hqr := eval_rel ho sr q
    obtain ⟨s1, s2⟩ := srcA_ok hq hqr
    have hlt := get_lt hL
    have hcH : c.H[m + j]? = some (.tail xs.length i.sz) := by rw [hH, List.getElem?_append_left hlt]; exact hL
    obtain ⟨v', ι', w', h1, h2, h3, h4⟩ := app_row (ty0 := o.type) ho.hr hs hx hd (by simpa using hb) (by simpa using hz0) hone (Nat.eq_of_beq_eq_true hzs) hcH hpr s1 s2 hfit
    rw [hH, List.set_append_left _ _ hlt] at h2 h3 h4
    rw [List.length_append]
    refine ⟨v', ι', w', ?_, h2, h3, h4⟩
    simp [execOp, hop, resolve, invoke, builtin, h1]⟩

theorem WpOps.appX {ty tx e z m j : Nat} {i ix : TI} {p q : Operand} {xs ys : List (List AV)} (hw : wantedA ops t o = some true) (hd : o.dst = some d) (hdn : Nat.blt d n = true)
    (hop : o.op = .call { callee := .builtin .append, args := ⟨[p, q]⟩, argTypes := ⟨[ty, tx]⟩ }) (hs : sliceOf E.T ty = some (e, i)) (hz : i.sz = z) (hx : lookT E.T tx = some ix) (hdd : ∀ k, ix.d ≠ .int k)
    (hb : Nat.blt 0 i.bytes = true) (hz0 : Nat.blt 0 z = true) (hzs : Nat.beq i.zero.cells.size z = true) (hp : evalA E.G t p = .sl (.row m j) z xs) (hL : H[m + j]? = some (.tail xs.length z)) (hq : srcA z (evalA E.G t q) = some ys) (hone : ∀ y ∈ ys, ∀ a ∈ y, a.one = true)
    (hfit : (xs.length + ys.length) * i.bytes ≤ 140737488355328)
    (hk : WpOps E ro n ops rest K ((d, .sl (.row m j) z (xs ++ ys)) :: t) (H.set (m + j) (.tail (xs ++ ys).length z) ++ L)) : WpOps E ro n ops (o :: rest) K t (H ++ L) :=
  .p1 hw hd hdn (.appX hop hs hz hx hdd hb hz0 hzs hp hL hq hone hfit) hk
end

/-- A nil that is handed on as a row of its own. -/
theorem CallsA.adopt {E : Env} {g : Nat} {us ws : List AV} {z z0 : Nat} {H : List AObj} {R : AEnd → List AObj → Prop}
    (h : CallsA E g (us ++ ([.sl (.row H.length 0) z []] ++ ws)) (H ++ [.tail 0 z]) R) : CallsA E g (us ++ ([.sl .full z0 []] ++ ws)) H R := by
  refine ⟨?_⟩
  intro c vs e1 e2 e3
  subst e1
  have hx := Ext.adopt c z e2.hr
  have hh := e2.hr.adopt z
  have hlen : us.length ≤ vs.length := by rw [← e3.1]; simp
  have h1 : RelL (c.adopt z) (us ++ ([.sl (.row c.H.length 0) z []] ++ ws)) vs := by
    refine ⟨by have := e3.1; simpa using this, fun i a v ha hv => ?_⟩
    by_cases hi : i = us.length
    · subst hi
      rw [List.getElem?_append_right (Nat.le_refl _), Nat.sub_self] at ha
      injection ha with ha
      subst ha
      refine RelV.adopt (z0 := z0) e2.hr (by simp) (e3.2 us.length _ v ?_ hv)
      rw [List.getElem?_append_right (Nat.le_refl _), Nat.sub_self]
      rfl
    · refine (e3.2 i a v ?_ hv).mono hx.toExt0
      rcases Nat.lt_or_ge i us.length with hlt | hge
      · rw [List.getElem?_append_left hlt] at ha ⊢; exact ha
      · rw [List.getElem?_append_right hge] at ha ⊢
        obtain ⟨k, hk⟩ : ∃ k, i - us.length = k + 1 := ⟨i - us.length - 1, by omega⟩
        rw [hk] at ha ⊢
        exact ha
  have h2 := h.out (c.adopt z) vs rfl (e2.step hx hh) h1
  have hfin : ∀ e w, PostC E.G (c.adopt z) R e w → PostC E.G c R e w := by
    rintro e w ⟨ι, H', x, a1, a2, a3, a4⟩
    exact ⟨ι, H', x, hx.trans a1, a2, a3, a4⟩
  show UponC E.P _ ((callFunc g vs.toArray).run E.P c.w)
  have hw : (c.adopt z).w = c.w := rfl
  rw [hw] at h2
  unfold UponC at h2 ⊢
  split at h2
  · exact Calls.mono h2 hfin
  · exact hfin _ _ h2
  · exact h2.elim

/-- Behind a call: what was laid is cut off, less is said of the result. -/
theorem CallsA.cut {E : Env} {g : Nat} {as : List AV} {H H1 : List AObj} {r : AV} (hl : H1.length = H.length) (ht : TrOk H H1) (hb : Bd H.length r)
    (h : CallsA E g as H (fun e H' => ∃ L r0, H' = H1 ++ L ∧ e = .ret r0 ∧ Sub r0 r)) : CallsA E g as H (fun e H' => H' = H1 ∧ e = .ret r) := by
  refine ⟨?_⟩
  intro c vs e1 e2 e3
  have h2 := h.out c vs e1 e2 e3
  subst e1
  have hfin : ∀ e w, PostC E.G c (fun e H' => ∃ L r0, H' = H1 ++ L ∧ e = .ret r0 ∧ Sub r0 r) e w → PostC E.G c (fun e H' => H' = H1 ∧ e = .ret r) e w := by
    rintro e w ⟨ι, H', x, a1, a2, a3, L, r0, rfl, rfl, hs⟩
    cases e with
    | panicked _ => exact a3.elim
    | outgrown => exact a3.elim
    | returned v =>
      refine RetR.use (c' := ⟨ι, H1 ++ L, w⟩) (v := r) (e := .ret r) a1 e2 a2 (.cut H1 L rfl hl ht hb ⟨rfl, rfl⟩) ?_
      have hr : RelV ⟨ι, H1 ++ L, w⟩ r v := hs _ _ a3
      rintro c'' (rfl | ⟨rfl, hbd⟩)
      · exact hr
      · exact hr.trunc hbd
  unfold UponC at h2 ⊢
  split at h2
  · exact Calls.mono h2 hfin
  · exact hfin _ _ h2
  · exact h2.elim

theorem grow {H A L X : List AObj} (h : X = A ++ L) : H ++ X = (H ++ A) ++ L := by rw [h, List.append_assoc]

theorem Agree.cons {d : Nat} {v : AV} : ∀ {T t : Slots}, (∀ p ∈ T, p.1 ≠ d) → Agree T t → Agree T ((d, v) :: t)
  | [], t, _, _ => trivial
  | (k, u) :: r, t, hd, h => by
    refine ⟨?_, Agree.cons (fun p hp => hd p (List.mem_cons_of_mem _ hp)) h.2⟩
    show (bif Nat.beq d k then v else look t k) = u
    have : Nat.beq d k = false := by
      cases hb : Nat.beq d k with
      | false => rfl
      | true => exact absurd (Nat.eq_of_beq_eq_true hb).symm (hd _ List.mem_cons_self)
    rw [this]
    exact h.1

/-- A loop whose state is known at each round. -/
theorem WpA.loopFor {E : Env} {ro : Option Nat} {n : Nat} {K : Kont} {t : Slots} {H : List AObj} {body : Code} (N : Nat) (T : Nat → Slots) (Hf : Nat → List AObj) (ok : Nat → Prop) (h0 : ok 0) (hT : Agree (T 0) t) (hH : H = Hf 0)
    (hr : ∀ i, i < N → ok i → WpA E ro n body (thenK (fun t' H' => ok (i + 1) ∧ Agree (T (i + 1)) t' ∧ H' = Hf (i + 1)) K) (T i) (Hf i))
    (hx : ok N → WpA E ro n body (thenK (fun _ _ => False) K) (T N) (Hf N)) : WpA E ro n (.loop body) K t H := by
  refine WpA.loopS (α := Nat) T Hf (fun i => i ≤ N ∧ ok i) (fun i => N - i) 0 ⟨Nat.zero_le _, h0⟩ hT hH ?_
  rintro i ⟨hi, ho⟩
  rcases Nat.lt_or_ge i N with hlt | hge
  · refine (hr i hlt ho).mono fun x t' H' h => ?_
    cases x with
    | normal => exact ⟨i + 1, ⟨by omega, h.1⟩, by omega, h.2.1, h.2.2⟩
    | exit i => exact h
    | ret => exact h
    | panic v => exact h
  · have : i = N := by omega
    subst this
    refine (hx ho).mono fun x t' H' h => ?_
    cases x with
    | normal => exact h.elim
    | exit i => exact h
    | ret => exact h
    | panic v => exact h

/-- What a round that goes on leaves: the next state, and what it has laid. -/
def goOn (T : Slots) (H1 : List AObj) (ok : Prop) (K : Kont) : Kont
  | .normal, t', H' => ok ∧ Agree T t' ∧ ∃ L, H' = H1 ++ L
  | x, t', H' => K x t' H'

/-- .. what a round lays is left out of sight. -/
theorem WpA.loopG {E : Env} {ro : Option Nat} {n : Nat} {K : Kont} {t : Slots} {H : List AObj} {body : Code} (N : Nat) (T : Nat → Slots) (Hf : Nat → List AObj) (ok : Nat → Prop) (h0 : ok 0) (hT : Agree (T 0) t) (hH : H = Hf 0)
    (hl : ∀ i, i < N → (Hf (i + 1)).length = (Hf i).length) (htr : ∀ i, i < N → ok i → TrOk (Hf i) (Hf (i + 1))) (hbd : ∀ i, i < N → ok i → BdS (Hf i).length (T (i + 1)))
    (hr : ∀ i, i < N → ok i → WpA E ro n body (goOn (T (i + 1)) (Hf (i + 1)) (ok (i + 1)) K) (T i) (Hf i))
    (hx : ok N → WpA E ro n body (thenK (fun _ _ => False) K) (T N) (Hf N)) (hT' : ∀ i, Agree (T i) (T i)) : WpA E ro n (.loop body) K t H := by
  refine WpA.loopFor N T Hf ok h0 hT hH (fun i hi ho => ?_) hx
  refine WpA.scope ((hr i hi ho).mono fun x t' H' h => ?_)
  cases x with
  | normal =>
    obtain ⟨h1, h2, L, rfl⟩ := h
    exact .inr ⟨Hf (i + 1), L, T (i + 1), rfl, hl i hi, htr i hi ho, h2, hbd i hi ho, fun v e => (by cases e), h1, hT' (i + 1), rfl⟩
  | exit i => exact .inl h
  | ret => exact .inl h
  | panic v => exact .inl h

/-- Where ways meet again. -/
theorem WpA.joinS {E : Env} {ro : Option Nat} {n : Nat} {K : Kont} {t : Slots} {H : List AObj} {code rest : Code} (T : Slots) (H1 : List AObj)
    (h : WpA E ro n code (thenK (fun t' H' => Agree T t' ∧ H' = H1) K) t H) (hrest : WpA E ro n rest K T H1) : WpA E ro n code (thenK (WpA E ro n rest K) K) t H :=
  h.mono fun x t' H' h => by
    cases x with
    | normal => obtain ⟨h1, rfl⟩ := h; exact hrest.weak h1
    | exit i => exact h
    | ret => exact h
    | panic v => exact h

/-- An append to a row that came in; the heap behind it under a name. -/
theorem WpOps.appY {E : Env} {ro : Option Nat} {n : Nat} {K : Kont} {t : Slots} {H L : List AObj} {ops : Array Oper} {o : Oper} {rest : List Oper} {d ty tx e z m j : Nat} {i ix : TI} {p q : Operand} {xs : List (List AV)} (ys : List (List AV)) (hw : wantedA ops t o = some true) (hd : o.dst = some d) (hdn : Nat.blt d n = true)
    (hop : o.op = .call { callee := .builtin .append, args := ⟨[p, q]⟩, argTypes := ⟨[ty, tx]⟩ }) (hs : sliceOf E.T ty = some (e, i)) (hz : i.sz = z) (hx : lookT E.T tx = some ix) (hdd : ∀ k, ix.d ≠ .int k)
    (hb : Nat.blt 0 i.bytes = true) (hz0 : Nat.blt 0 z = true) (hzs : Nat.beq i.zero.cells.size z = true) (hp : evalA E.G t p = .sl (.row m j) z xs) (hq : srcA z (evalA E.G t q) = some ys) (hL : H[m + j]? = some (.tail xs.length z)) (hone : ∀ y ∈ ys, ∀ a ∈ y, a.one = true)
    (hfit : (xs.length + ys.length) * i.bytes ≤ 140737488355328)
    (hk : ∀ B, B = H.set (m + j) (.tail (xs ++ ys).length z) → H.length = B.length → WpOps E ro n ops rest K ((d, .sl (.row m j) z (xs ++ ys)) :: t) (B ++ L)) : WpOps E ro n ops (o :: rest) K t (H ++ L) :=
  .appX hw hd hdn hop hs hz hx hdd hb hz0 hzs hp hL hq hone hfit (hk _ rfl (by simp))

end Go.Gp

/- Rows of bytes. -/
namespace Go.Gp
open Go.RowKit
set_option linter.unusedVariables false
set_option linter.unusedSimpArgs false

theorem one_bytes {ys : List (List AV)} (bs : List UInt8) (h : ys = bs.map byteRow) : ∀ y ∈ ys, ∀ a ∈ y, a.one = true := by
  subst h
  intro y hy a ha
  obtain ⟨b, _, rfl⟩ := List.mem_map.1 hy
  have := List.mem_singleton.1 ha
  subst this
  rfl

theorem bd_rowB {n m q : Nat} (h : m + q < n) (bs : List UInt8) : Bd n (.sl (.row m q) 1 (bs.map byteRow)) := by
  refine .sl (fun m' j' e => by injection e with e1 e2; subst e1; subst e2; exact h) fun x hx e he => ?_
  obtain ⟨b, _, rfl⟩ := List.mem_map.1 hx
  have := List.mem_singleton.1 he
  subst this
  exact .int

theorem bd_slB {n : Nat} (bs : List UInt8) : Bd n (.sl .no 1 (bs.map byteRow)) := by
  refine .sl (fun m' j' e => by cases e) fun x hx e he => ?_
  obtain ⟨b, _, rfl⟩ := List.mem_map.1 hx
  have := List.mem_singleton.1 he
  subst this
  exact .int

theorem u8wrap (n : Nat) : IntKind.u8.wrap (n : Int) = (((UInt8.ofNat n).toNat : Nat) : Int) := by
  rw [UInt8.toNat_ofNat']
  simp only [IntKind.wrap, IntKind.bits, IntKind.signed]
  simp
theorem row1 (n : Nat) : [[AV.int .u8 (IntKind.u8.wrap (n : Int))]] = [UInt8.ofNat n].map byteRow := by rw [u8wrap]; rfl

/-- The row has become this one. -/
def rowIs (H : List AObj) (m q : Nat) (b : List UInt8) : AEnd → List AObj → Prop := fun e H' => H' = H.set (m + q) (.tail b.length 1) ∧ e = .ret (.sl (.row m q) 1 (b.map byteRow))

/-- An append of bytes to a row that came in. -/
theorem WpOps.appB {E : Env} {ro : Option Nat} {n : Nat} {K : Kont} {t : Slots} {H L : List AObj} {ops : Array Oper} {o : Oper} {rest : List Oper} {d ty tx e m j : Nat} {i ix : TI} {p q : Operand} {b : List UInt8} (c : List UInt8) {ys : List (List AV)} (hL : H[m + j]? = some (.tail b.length 1)) (hfit : b.length + c.length ≤ 140737488355328)
    (hw : wantedA ops t o = some true) (hd : o.dst = some d) (hdn : Nat.blt d n = true)
    (hop : o.op = .call { callee := .builtin .append, args := ⟨[p, q]⟩, argTypes := ⟨[ty, tx]⟩ }) (hs : sliceOf E.T ty = some (e, i)) (hz : i.sz = 1) (hx : lookT E.T tx = some ix) (hdd : ∀ k, ix.d ≠ .int k)
    (hb : i.bytes = 1) (hzs : Nat.beq i.zero.cells.size 1 = true) (hp : evalA E.G t p = .sl (.row m j) 1 (b.map byteRow)) (hq : srcA 1 (evalA E.G t q) = some ys) (hys : ys = c.map byteRow)
    (hk : ∀ B, B = H.set (m + j) (.tail (b ++ c).length 1) → H.length = B.length → WpOps E ro n ops rest K ((d, .sl (.row m j) 1 ((b ++ c).map byteRow)) :: t) (B ++ L)) : WpOps E ro n ops (o :: rest) K t (H ++ L) := by
  refine WpOps.appX hw hd hdn hop hs hz hx hdd (by rw [hb]; rfl) rfl hzs hp (by rw [List.length_map]; exact hL) hq (one_bytes c hys) (by rw [hb, hys, List.length_map, List.length_map]; omega) ?_
  have := hk _ rfl (by simp)
  rw [List.map_append, List.length_append] at this
  rw [hys, List.length_append, List.length_map, List.length_map]
  exact this

theorem WpA.heap {E : Env} {ro : Option Nat} {n : Nat} {K : Kont} {t : Slots} {H H' : List AObj} {code : Code} (h : H = H') (hw : WpA E ro n code K t H') : WpA E ro n code K t H := by rw [h]; exact hw

/-- A yield that is asked item after item, as a loop sees it. -/
def yStep {σ : Type} (f : σ → List AV → Bool × σ) : σ → List AV → σ × Option Code := fun s x => ((f s x).2, bif (f s x).1 then none else some .ret)
theorem runStep_y {σ : Type} (f : σ → List AV → Bool × σ) : ∀ (its : List (List AV)) (s : σ), runStep (yStep f) s its = (runIt f s its, bif allIt f s its then none else some .ret)
  | [], s => rfl
  | x :: xs, s => by
    unfold runStep runIt allIt yStep
    cases h : (f s x).1 with
    | true => exact runStep_y f xs _
    | false => rfl

/-- Less is known of the arguments than there is. -/
theorem CallsA.subL {E : Env} {g : Nat} {us vs : List AV} {H : List AObj} {R : AEnd → List AObj → Prop} (h : SubL us vs) (hc : CallsA E g vs H R) : CallsA E g us H R :=
  ⟨fun c xs e1 e2 e3 => hc.out c xs e1 e2 (h.rel e3)⟩
theorem SubL.refl : ∀ us : List AV, SubL us us
  | [] => trivial
  | u :: us => ⟨Sub.refl u, SubL.refl us⟩

theorem or_byte {q b : Nat} (hb : b < 256) (h : 256 * q + b < 18446744073709551616) : (BitVec.ofInt 64 ((256 * q : Nat) : Int) ||| BitVec.ofInt 64 (b : Int)).toNat = 256 * q + b := by
  have e : ∀ n : Nat, n < 18446744073709551616 → (BitVec.ofInt 64 (n : Int)).toNat = n := fun n hn => by
    rw [BitVec.toNat_ofInt]
    omega
  rw [BitVec.toNat_or, e _ (by omega), e _ (by omega)]
  have := Nat.two_pow_add_eq_or_of_lt (i := 8) (b := b) hb q
  exact this.symm

theorem obd_tail {n a b : Nat} : OBd n (.tail a b) := ⟨fun cs e => (by cases e), fun es e => (by cases e), fun r t e => by cases e⟩
theorem obd_cells {n : Nat} {cs : List AV} (h : ∀ a ∈ cs, Bd n a) : OBd n (.cells cs) := ⟨fun cs e => (by injection e with e; subst e; exact h), fun es e => (by cases e), fun r t e => by cases e⟩
theorem TrOk.set1 {H : List AObj} {k : Nat} {o' : AObj} (h : OBd H.length o') : TrOk H (H.set k o') := fun i o hi => by
  rw [List.getElem?_set] at hi
  split at hi
  · split at hi
    · injection hi with hi; subst hi; exact .inr h
    · cases hi
  · exact .inl hi
theorem TrOk.set2 {H L : List AObj} {k : Nat} {o o' : AObj} (h : ∀ n, OBd n o') : TrOk (H.set k o ++ L) (H.set k o' ++ L) := fun i x hi => by
  rcases Nat.lt_or_ge i H.length with hlt | hge
  · rw [List.getElem?_append_left (by simpa using hlt)] at hi ⊢
    rw [List.getElem?_set] at hi ⊢
    split at hi
    · rename_i hk
      rw [if_pos (by omega)] at hi
      injection hi with hi
      subst hi
      exact .inr (h _)
    · rename_i hk
      rw [if_neg hk]
      exact .inl hi
  · rw [List.getElem?_append_right (by simpa using hge)] at hi ⊢
    simp only [List.length_set] at hi ⊢
    exact .inl hi
end Go.Gp

/- Calls that die. -/
namespace Go.Gp
open Go.RowKit
set_option linter.unusedVariables false
set_option linter.unusedSimpArgs false

theorem WpOps.callD {E : Env} {ro : Option Nat} {n : Nat} {K : Kont} {t : Slots} {H : List AObj} {ops : Array Oper} {o : Oper} {rest : List Oper} {d g : Nat} {caps : List AV} {f : Operand} {xs : List Operand} {ats : Array TypeId} {P : List AObj → Prop} {v : AV}
    (hw : wantedA ops t o = some true) (hd : o.dst = some d) (hdn : Nat.blt d n = true) (hop : o.op = .call { callee := .value f, args := ⟨xs⟩, argTypes := ats }) (hf : evalA E.G t f = .func g caps)
    (hc : CallsA E g (evalL E.G t xs ++ caps) H (fun e H' => P H' ∧ e = .panic v)) (hk : ∀ H', P H' → K (.panic v) t H') : WpOps E ro n ops (o :: rest) K t H :=
  .call hw hd hdn hop hf hc (fun x H' h => by obtain ⟨h1, rfl⟩ := h; exact hk H' h1)

theorem retK.dies' {E : Env} {rs : List ResultVar} {H H1 L : List AObj} {R : AEnd → List AObj → Prop} {v u : AV} {t : Slots} (hu : forget v = u) (hl : H1.length = H.length) (ht : TrOk H H1) (hb : Bd H.length u) (hR : R (.panic u) H1) :
    retK E rs H R (.panic v) t (H1 ++ L) := by
  show RetR H R (.panic (forget v)) (forget v) (H1 ++ L)
  rw [hu]
  exact .cut H1 L rfl hl ht hb hR
end Go.Gp

/- Statements whose order of evaluation is open and in which an operation dies. -/
namespace Go.Gp
open Go.RowKit
set_option linter.unusedVariables false
set_option linter.unusedSimpArgs false

structure DiesH (E : Env) (ro : Option Nat) (n : Nat) (o : Oper) (f : SFn) (H : List AObj) (P : List AObj → Prop) (v : AV) : Prop where
  nd : notDefer o
  out : ∀ (c : Cfg) (a : Act) (K : Act → World → Prop) (Q : Exit → Act → World → Prop), c.H = H → Ok E.G c → SF c n f a →
    (∀ ι' H' w' u, Ext c ⟨ι', H', w'⟩ → Ok E.G ⟨ι', H', w'⟩ → RelV ⟨ι', H', w'⟩ v u → P H' → Q (.panic [{ v := u, recovered := false }]) a w') → o.uponIn (Fc ro) 0 E.P a K Q ((execOp a.eval o).run E.P c.w)

section
variable {E : Env} {ro : Option Nat} {n : Nat} {ids : List Nat} {md : Region.Mode} {ops : Array Oper} {cl : List Nat} {P : List AObj → Prop} {v : AV}

def DieP (E : Env) (ro : Option Nat) (n : Nat) (ops : Array Oper) (k : Nat) (o : Oper) (f : SFn) (H : List AObj) (P : List AObj → Prop) (v : AV) : Prop :=
  k = 3 ∧ wantedF ops f o = some true ∧ DiesH E ro n o (restr (o.looksAt ops) f) H P v

def anyD (E : Env) (ro : Option Nat) (n : Nat) (ids : List Nat) (md : Region.Mode) (ops : Array Oper) (cl : List Nat) (P : List AObj → Prop) (v : AV) : Nat → Array Bool → SFn → List AObj → Prop
  | 0, _, _, _ => False
  | fuel + 1, listed, f, H => Region.ready md ops listed ≠ [] ∧
    ∀ i ∈ Region.ready md ops listed, ∀ o, ops[i]? = some o →
      (∃ av H', StepH E ro n ids ops (cl.getD i 2) o f H H' av ∧ anyD E ro n ids md ops cl P v fuel (listed.setIfInBounds i true) (putF o.dst av f) H') ∨ DieP E ro n ops (cl.getD i 2) o f H P v

theorem anyD_mono : ∀ {fuel : Nat} {listed : Array Bool} {f : SFn} {H : List AObj}, anyD E ro n ids md ops cl P v fuel listed f H → anyD E ro n ids md ops cl P v (fuel + 1) listed f H
  | 0, _, _, _, h => h.elim
  | fuel + 1, listed, f, H, h => ⟨h.1, fun i hi o ho => (h.2 i hi o ho).imp (fun ⟨av, H', h1, h2⟩ => ⟨av, H', h1, anyD_mono h2⟩) id⟩

theorem still_of_com {k : Nat} {o : Oper} {f : SFn} {H H1 : List AObj} {av : AV} (hc : comB k 3 = true) (h : StepH E ro n ids ops k o f H H1 av) : H1 = H := by
  obtain ⟨_, ⟨_, h⟩ | ⟨_, _, h⟩⟩ := h
  · match k, hc, h with
    | 0, _, h => exact h.1
    | 4, _, h => exact h.1
    | 1, hc, _ => exact absurd hc (by decide)
    | 2, hc, _ => exact absurd hc (by decide)
    | 3, hc, _ => exact absurd hc (by decide)
    | k + 5, hc, _ => exact absurd hc (by simp [comB]; omega)
  · exact h

theorem DieP.congr {k : Nat} {o : Oper} {f f' : SFn} {H : List AObj} (h : DieP E ro n ops k o f H P v) (he : ∀ d ∈ o.looksAt ops, f' d = f d) : DieP E ro n ops k o f' H P v := by
  have h1 := wantedF_congr (f := f) (f' := f') (ops := ops) (o := o) he
  have h2 : restr (o.looksAt ops) f' = restr (o.looksAt ops) f := by
    funext i
    unfold restr
    split
    · rename_i hi; exact he i hi
    · rfl
  unfold DieP at *
  rw [h1, h2]
  exact h

theorem anyD_first {i : Nat} {oi : Oper} {u : AV} (hi : ops[i]? = some oi) :
    ∀ (fuel : Nat) (listed : Array Bool) (f : SFn) (H H1 : List AObj),
      (∀ j oj, ops[j]? = some oj → j ≠ i → listed.getD j true = false → (∀ e ∈ oj.after, Region.binds md e = true → e.on ≠ i) → oi.apart ops oj = true ∧ comB (cl.getD i 2) (cl.getD j 2) = true) →
      i ∈ Region.ready md ops listed → StepH E ro n ids ops (cl.getD i 2) oi f H H1 u →
      anyD E ro n ids md ops cl P v fuel (listed.setIfInBounds i true) (putF oi.dst u f) H1 → anyD E ro n ids md ops cl P v (fuel + 1) listed f H := by
  intro fuel
  induction fuel with
  | zero => intro listed f H H1 _ _ _ HH; exact HH.elim
  | succ fuel ih =>
    intro listed f H H1 hfree hr hy HH
    refine ⟨fun h => (by rw [h] at hr; cases hr), fun j hj o ho => ?_⟩
    by_cases hji : j = i
    · subst hji
      rw [hi] at ho; injection ho with ho; subst ho
      exact .inl ⟨u, H1, hy, HH⟩
    · obtain ⟨hjun, oj, hoj, hall⟩ := mem_ready.1 hj
      rw [ho] at hoj; injection hoj with hoj; subst hoj
      have hnot : ∀ e ∈ o.after, Region.binds md e = true → e.on ≠ i := fun e he hb heq => by
        have h1 := hall e he hb
        have h0 := (mem_ready.1 hr).1
        rw [heq] at h1
        rcases Nat.lt_or_ge i listed.size with h' | h'
        · simp [h'] at h0 h1; rw [h0] at h1; cases h1
        · simp [Array.getElem?_eq_none h'] at h1
      obtain ⟨hap, hcl⟩ := hfree j o ho hji hjun hnot
      obtain ⟨a1, a2, a3⟩ := Oper.apart_spec hap
      rcases HH.2 j (ready_mono hj hji) o ho with ⟨w, H2, hu, hA⟩ | hdie
      · have hfree' : ∀ k ok, ops[k]? = some ok → k ≠ i → (listed.setIfInBounds j true).getD k true = false →
            (∀ e ∈ ok.after, Region.binds md e = true → e.on ≠ i) → oi.apart ops ok = true ∧ comB (cl.getD i 2) (cl.getD k 2) = true := fun k ok hk hki hun hno => by
          refine hfree k ok hk hki ?_ hno
          by_cases hjk : j = k
          · subst hjk; exact hjun
          · rw [getD_set_ne true hjk] at hun; exact hun
        obtain ⟨H3, g1, g2⟩ := swapH (g := putF o.dst w f) hcl hy ((StepH.put_iff a1).1 hu) (fun A B h => (StepH.put_iff a3).2 h)
        refine .inl ⟨w, H3, g1, ih (listed.setIfInBounds j true) _ H3 H2 hfree' (ready_mono hr (Ne.symm hji)) g2 ?_⟩
        rw [Array.setIfInBounds_comm _ _ hji, ← putF_comm a2]
        exact hA
      · have hk3 := hdie.1
        rw [hk3] at hcl
        have hH := still_of_com hcl hy
        subst hH
        exact .inr (hdie.congr fun x hx => (putF_ne fun e => a1 x e hx).symm)

/-- The operations that come before the one that dies, in an order of ours. -/
def ordB (md : Region.Mode) (ops : Array Oper) (cl : List Nat) (p : Nat) : List Nat → Array Bool → Bool
  | [], listed => Region.ready md ops listed == [p]
  | i :: r, listed => (Region.ready md ops listed).contains i && Region.free md ops listed i && freeCl md ops cl listed i && ordB md ops cl p r (listed.setIfInBounds i true)

def chainD (E : Env) (ro : Option Nat) (n : Nat) (ids : List Nat) (ops : Array Oper) (cl : List Nat) (p : Nat) (P : List AObj → Prop) (v : AV) : List Nat → SFn → List AObj → Prop
  | [], f, H => ∃ o, ops[p]? = some o ∧ DieP E ro n ops (cl.getD p 2) o f H P v
  | i :: r, f, H => ∃ o av H', ops[i]? = some o ∧ StepH E ro n ids ops (cl.getD i 2) o f H H' av ∧ chainD E ro n ids ops cl p P v r (putF o.dst av f) H'

theorem anyD_ord {p : Nat} : ∀ (l : List Nat) (listed : Array Bool) (f : SFn) (H : List AObj), ordB md ops cl p l listed = true → chainD E ro n ids ops cl p P v l f H → anyD E ro n ids md ops cl P v (l.length + 1) listed f H
  | [], listed, f, H, hB, ⟨o, ho, hd⟩ => by
    have hr : Region.ready md ops listed = [p] := by simpa [ordB] using hB
    refine ⟨by rw [hr]; simp, fun i hi o' ho' => ?_⟩
    rw [hr] at hi
    have := List.mem_singleton.1 hi
    subst this
    rw [ho] at ho'; injection ho' with ho'; subst ho'
    exact .inr hd
  | i :: r, listed, f, H, hB, ⟨o, av, H', ho, hs, hc⟩ => by
    simp only [ordB, Bool.and_eq_true] at hB
    obtain ⟨⟨⟨h1, h2⟩, h3⟩, h4⟩ := hB
    exact anyD_first ho (r.length + 1) listed f H H' (fun j oj hj hne hun hno => ⟨Region.free_spec ho h2 j oj hj hne hun hno, freeCl_spec h3 j oj hj hne hun hno⟩) (by simpa using h1) hs (anyD_ord r _ _ H' h4 hc)

theorem chainD_less {p : Nat} : ∀ (l : List Nat) {f f' : SFn} {H : List AObj}, Less f' f → chainD E ro n ids ops cl p P v l f' H → chainD E ro n ids ops cl p P v l f H
  | [], f, f', H, hl, ⟨o, ho, h1, h2, h3⟩ => ⟨o, ho, h1, wantedF_less hl h2, ⟨h3.nd, fun c a K Q e1 e2 e3 e4 => h3.out c a K Q e1 e2 (e3.less (hl.restr _)) e4⟩⟩
  | i :: r, f, f', H, hl, ⟨o, av, H', ho, hs, hc⟩ => ⟨o, av, H', ho, hs.less hl, chainD_less r (hl.put o.dst av) hc⟩

theorem wpAny_of_D {Q : Exit → Act → World → Prop} {cd : DC} {c0 : Cfg} (hQ : ∀ (c : Cfg) (a : Act) u, Ext c0 c → P c.H → Ok E.G c → a.tmps.size = n → DefOk cd c a → RelV c v u → Q (.panic [{ v := u, recovered := false }]) a c.w) :
    ∀ (fuel : Nat) (listed : Array Bool) (f : SFn) (H : List AObj) (c : Cfg) (a : Act), anyD E ro n ids md ops cl P v fuel listed f H → Ext c0 c → c.H = H → Ok E.G c → SF c n f a → DefOk cd c a →
      wpAnyIn (Fc ro) 0 E.P md ops Q fuel listed a c.w
  | 0, listed, f, H, c, a, h, e1, e2, e3, e4, e5 => h.elim
  | fuel + 1, listed, f, H, c, a, h, e1, e2, e3, e4, e5 => by
    refine ⟨fun h0 => absurd h0 h.1, fun i hi => ?_⟩
    unfold wpOpIn
    cases ho : ops[i]? with
    | none =>
      obtain ⟨_, o, ho', _⟩ := mem_ready.1 hi
      rw [ho] at ho'; cases ho'
    | some o =>
      simp only
      rcases h.2 i hi o ho with ⟨av, H', ⟨hdn, hs⟩, hA⟩ | ⟨_, hw, hd⟩
      · have hput : ∀ (c' : Cfg) (v : Value), SF c' n f a → RelV c' av v → SF c' n (putF o.dst av f) (a.put o.dst v) := fun c' v hs' hv => by
          cases hd : o.dst with
          | none => exact hs'
          | some d => exact hs'.put (hdn d hd) hv
        have hdef : ∀ (v : Value), (a.put o.dst v).defers = a.defers := fun v => by cases o.dst <;> rfl
        rcases hs with ⟨hw, hdo⟩ | ⟨hw, rfl, rfl⟩
        · simp only [wantedF_eq e4 hw, if_true]
          refine ⟨fun g _ => Fc_fn ro g, ?_⟩
          rw [Oper.semAt_eq _ _ _ hdo.does.nd]
          refine hdo.does.out c a _ _ e2 e3 (e4.less (restr_less _ _)) fun ι' w' v hx hok hv => ?_
          exact wpAny_of_D hQ fuel _ _ H' ⟨ι', H', w'⟩ _ hA (e1.trans hx) rfl hok (hput _ v (e4.mono hx) hv) (e5.mono hx (hdef v))
        · simp only [wantedF_eq e4 hw, Bool.false_eq_true, if_false]
          refine ⟨fun g _ => Fc_fn ro g, ?_⟩
          exact wpAny_of_D hQ fuel _ _ _ c _ hA e1 e2 e3 (hput _ undef e4 (.tup [] rfl (fun i a v h => by simp at h))) (e5.mono (Ext.refl c) (hdef _))
      · simp only [wantedF_eq e4 hw, if_true]
        refine ⟨fun g _ => Fc_fn ro g, ?_⟩
        rw [Oper.semAt_eq _ _ _ hd.nd]
        refine hd.out c a _ _ e2 e3 (e4.less (restr_less _ _)) fun ι' H' w' u hx hok hv hP => ?_
        exact hQ ⟨ι', H', w'⟩ a u (e1.trans hx) hP hok e4.size (e5.mono hx rfl) hv

/-- The walk up to the operation that dies. -/
inductive LexD (E : Env) (ro : Option Nat) (n : Nat) (ids : List Nat) (ops : Array Oper) (cl : List Nat) (p : Nat) (P : List AObj → Prop) (v : AV) : List Nat → Slots → List AObj → Prop
  | die {o : Oper} {t : Slots} {H : List AObj} (ho : ops[p]? = some o) (h : DieP E ro n ops (cl.getD p 2) o (look t) H P v) : LexD E ro n ids ops cl p P v [] t H
  | cons {i : Nat} {r : List Nat} {o : Oper} {t : Slots} {H : List AObj} (av : AV) (H' : List AObj) (ho : ops[i]? = some o) (hs : StepH E ro n ids ops (cl.getD i 2) o (look t) H H' av) (h : LexD E ro n ids ops cl p P v r (putS o.dst av t) H') : LexD E ro n ids ops cl p P v (i :: r) t H
  | weak {r : List Nat} {t t' : Slots} {H : List AObj} (hl : Less (look t') (look t)) (h : LexD E ro n ids ops cl p P v r t' H) : LexD E ro n ids ops cl p P v r t H

theorem LexD.chain {p : Nat} {r : List Nat} {t : Slots} {H : List AObj} (h : LexD E ro n ids ops cl p P v r t H) : chainD E ro n ids ops cl p P v r (look t) H := by
  induction h with
  | die ho h => exact ⟨_, ho, h⟩
  | cons av H' ho hs h ih => rw [look_putS] at ih; exact ⟨_, av, H', ho, hs, ih⟩
  | weak hl h ih => exact chainD_less _ hl ih

/-- A STATEMENT WHOSE ORDER IS OPEN AND THAT DIES. -/
theorem WpA.drawX {K : Kont} {t : Slots} {H : List AObj} {id : Nat} {l : List Oper} {P : List AObj → Prop} {v : AV} (ids cl : List Nat) (p : Nat) (ord : List Nat) (hN : Nat.ble (ord.length + 1) l.length = true) (hB : ordB .any l.toArray cl p ord (Array.replicate l.toArray.size false) = true)
    (h : LexD E ro n ids l.toArray cl p P v ord t H) (hk : ∀ H', P H' → K (.panic v) [] H') : WpA E ro n (.region id l.toArray true) K t H := by
  refine ⟨?_⟩
  intro cd c0 c a e1 e2 e3 e4 e5
  have hdr := Ext.drew c
  have h1 := anyD_ord (md := .any) ord (Array.replicate l.toArray.size false) (look t) H hB h.chain
  have h2 : ∀ k, anyD E ro n ids .any l.toArray cl P v (ord.length + 1 + k) (Array.replicate l.toArray.size false) (look t) H := fun k => by
    induction k with
    | zero => exact h1
    | succ k ih => exact anyD_mono ih
  have h3 := h2 (l.length - (ord.length + 1))
  have hle := Nat.le_of_ble_eq_true hN
  rw [Nat.add_sub_cancel' hle] at h3
  refine wpIn_region_any E.mixed (wpAny_of_D (cd := (cd, E.marks)) (c0 := c0) (P := P) (v := v) (fun c' a' u q1 q2 q3 q4 q5 q6 => Post.mk (.panic v) q1 q3 ⟨q4, fun i => .unk⟩ q5 ⟨u, rfl, q6⟩ (hk _ q2)) _ _ _ H c.drew a (by simpa using h3) (e1.trans hdr) e2 (e3.step hdr e3.hr.drew) (e4.sf.mono hdr) (e5.mono hdr rfl))

section rules
variable {t : Slots} {H H' L : List AObj} {o : Oper} {r : List Nat} {i p d : Nat} {av : AV}

theorem LexD.p0 (ho : ops[i]? = some o) (hw : wantedA ops t o = some true) (hd : o.dst = some d) (hdn : Nat.blt d n = true) (hc : cl.getD i 2 = 0) (h : ∀ H0, P1 E n H0 H0 o (cutT (o.looksAt ops) t) av)
    (hk : LexD E ro n ids ops cl p P v r ((d, av) :: t) H) : LexD E ro n ids ops cl p P v (i :: r) t H :=
  .cons av H ho ⟨dst_some hd hdn, .inl ⟨hw, by rw [hc]; exact ⟨rfl, fun H0 => (h H0).does⟩⟩⟩ (by rw [hd]; exact hk)

theorem LexD.p4 (ho : ops[i]? = some o) (hw : wantedA ops t o = some true) (hd : o.dst = some d) (hdn : Nat.blt d n = true) (hc : cl.getD i 2 = 4) (h : ∀ H0, Like ids H H0 → P1 E n H0 H0 o (cutT (o.looksAt ops) t) av)
    (hk : LexD E ro n ids ops cl p P v r ((d, av) :: t) H) : LexD E ro n ids ops cl p P v (i :: r) t H :=
  .cons av H ho ⟨dst_some hd hdn, .inl ⟨hw, by rw [hc]; exact ⟨rfl, fun H0 h0 => (h H0 h0).does⟩⟩⟩ (by rw [hd]; exact hk)

theorem LexD.op0 (av : AV) (ho : ops[i]? = some o) (hw : wantedA ops t o = some true) (hd : o.dst = some d) (hdn : Nat.blt d n = true) (hc : cl.getD i 2 = 0) (hv : valA E t [] o.op = some av) (hb : ∀ n0, baseN E n0 t o.op = n0)
    (hk : LexD E ro n ids ops cl p P v r ((d, av) :: t) H) : LexD E ro n ids ops cl p P v (i :: r) t H :=
  .p0 ho hw hd hdn hc (fun H0 => by
    have := P1.op (E := E) (n := n) (o := o) (t := cutT (o.looksAt ops) t) (H := H0) (L := []) (av := av) (by rw [valA_congr fun x hx => ⟨evalA_cut hx, evalO_cut hx⟩]; exact hv) (by rw [baseN_congr fun x hx => evalA_cut hx]; exact hb _)
    rwa [List.append_nil] at this) hk

theorem LexD.load4 {ty j off : Nat} {ti : TI} {q : Operand} {cs : List AV} (av : AV) (ho : ops[i]? = some o) (hw : wantedA ops t o = some true) (hd : o.dst = some d) (hdn : Nat.blt d n = true) (hc : cl.getD i 2 = 4) (hop : o.op = .load ty q)
    (hp : evalA E.G t q = .ptr H.length j off) (hid : H.length + j ∈ ids) (hL : L[j]? = some (.cells cs)) (hi : lookT E.T ty = some ti) (hle : Nat.ble (off + ti.sz) cs.length = true) (hv : varA ti (cs.drop off) = some av)
    (hk : LexD E ro n ids ops cl p P v r ((d, av) :: t) (H ++ L)) : LexD E ro n ids ops cl p P v (i :: r) t (H ++ L) :=
  .p4 ho hw hd hdn hc (fun H0 h0 => .loadAt hop (by rw [evalA_cut (by rw [hop]; simp [Op.operands])]; exact hp) (h0 _ hid _ (app_get rfl hL)) hi hle hv) hk

theorem LexD.call {g : Nat} {caps : List AV} {f : Operand} {xs : List Operand} {ats : Array TypeId}
    (ho : ops[p]? = some o) (hw : wantedA ops t o = some true) (hc : cl.getD p 2 = 3) (hop : o.op = .call { callee := .value f, args := ⟨xs⟩, argTypes := ats }) (hf : evalA E.G t f = .func g caps)
    (hcall : CallsA E g (evalL E.G t xs ++ caps) H (fun e H' => P H' ∧ e = .panic v)) : LexD E ro n ids ops cl p P v [] t H := by
  refine .die ho ⟨hc, ?_, ?_⟩
  · have : wantedF ops (look t) o = wantedA ops t o := rfl
    rw [this]; exact hw
  · have hnd : notDefer o := fun cc e => by rw [hop] at e; cases e
    refine ⟨hnd, fun c a K Q e2 e3 e4 hK => ?_⟩
    rw [← look_cut_fn] at e4
    have e4 := e4.sr
    have hfr := eval_rel e3 e4 f
    have hmem : ∀ x, x = f ∨ x ∈ xs → x ∈ o.op.operands := fun x hx => by
      rw [hop]
      simp only [Op.operands, Call.operands]
      rcases hx with rfl | hx <;> simp [*]
    rw [evalA_cut (hmem f (.inl rfl)), hf] at hfr
    have hargs0 := evalL_rel e3 e4 xs
    rw [evalL_congr fun x hx => evalA_cut (hmem x (.inr hx))] at hargs0
    generalize hv : a.eval f = v' at hfr
    cases hfr with
    | func ws hl hr =>
      have hargs := hargs0.append (bs := caps) (us := ws) ⟨hl, hr⟩
      have hcall := hcall.out c _ e2 e3 hargs
      have hrun : (execOp a.eval o).run E.P c.w = (callFunc g (xs.map a.eval ++ ws).toArray).run E.P c.w := by
        simp [execOp, hop, resolve, hv, Deferred.ofValue, invoke]
      rw [hrun]
      revert hcall
      cases (callFunc g (xs.map a.eval ++ ws).toArray).run E.P c.w with
      | halt x w => intro h; exact h.elim
      | ok nx w =>
        cases nx <;> intro hcall <;> try exact hcall.elim
        case value v' =>
          obtain ⟨ι', H', x, a1, a2, a3, a4, rfl⟩ := hcall
          exact a3.elim
        case enter f' args' =>
          rw [Oper.uponIn_enter]
          refine ⟨fun h => (by rw [Fc_depth] at h; simp at h), ?_⟩
          rw [Fc_calls]
          refine Calls.mono hcall ?_
          rintro e w' ⟨ι', H', x, a1, a2, a3, a4, rfl⟩
          cases e with
          | returned v' => exact a3.elim
          | outgrown => exact a3.elim
          | panicked chain =>
            obtain ⟨u, rfl, hu⟩ := a3
            exact hK ι' H' w' u a1 a2 hu a4
end rules
end
theorem Like.one {H L L' : List AObj} {j : Nat} (h : ∀ ob, L[j]? = some ob → L'[j]? = some ob) : Like [H.length + j] (H ++ L) (H ++ L') := fun i hi ob ho => by
  have := List.mem_singleton.1 hi
  subst this
  rw [List.getElem?_append_right (by omega), Nat.add_sub_cancel_left] at ho ⊢
  exact h ob ho
end Go.Gp
