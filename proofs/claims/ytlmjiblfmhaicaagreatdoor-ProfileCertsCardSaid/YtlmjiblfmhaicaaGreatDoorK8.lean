/- Part of a proof: GpA20, GpA21, GpA22, GpA23 -/
import Derived.Test.YtlmjiblfmhaicaaGreatDoorK7
import Derived.Laws.BytesString

set_option linter.unusedSectionVars false

/- Strings to bytes and back; arrays in boxes as slices. -/
namespace Go.Gp
open Go.RowKit
set_option linter.unusedVariables false
set_option linter.unusedSimpArgs false

abbrev byteRow (b : UInt8) : List AV := [u8 b]

theorem flat_bytes : ∀ (bs : List UInt8), (bs.map byteRow).flatten = bs.map u8
  | [] => rfl
  | b :: bs => by rw [List.map_cons, List.flatten_cons, flat_bytes bs]; rfl

section
variable {E : Env} {ro : Option Nat} {n : Nat} {K : Kont} {t : Slots} {H H' H1 L : List AObj} {ops : Array Oper} {o : Oper} {l rest : List Oper} {cl : List Nat} {k d : Nat} {av : AV} {Kc : Slots → List AObj → Prop}

theorem sliceA_spec {src e : Nat} {j : TI} {k : IntKind} (h : sliceOf E.T src = some (e, j)) (hj : j.d = .int k) : E.P.underlying src = some (.slice e) ∧ E.P.underlying e = some (.int k) := by
  obtain ⟨hu, hl⟩ := sliceOf_spec h
  obtain ⟨u, h1, h2⟩ := (Env.ti hl).u
  rw [hj] at h2
  have : u = .int k := h2
  subst this
  exact ⟨hu, h1⟩

theorem fold_push (bs : List UInt8) : ∀ (acc : ByteArray), (bs.map fun b => ((b.toNat : Nat) : Int)).foldl (fun r n => r.push (UInt8.ofNat n.toNat)) acc = ⟨acc.data ++ bs.toArray⟩ := by
  induction bs with
  | nil => intro acc; simp
  | cons b bs ih =>
    intro acc
    rw [List.map_cons, List.foldl_cons, ih]
    simp [ByteArray.push]

/-- Bytes read as cells. -/
theorem bytes_cells {c : Cfg} : ∀ (bs : List UInt8) (vs : List Value), RelL c (bs.map u8) vs → vs = (bs.map fun b => ((b.toNat : Nat) : Int)).map (Value.int .u8)
  | [], vs, h => by
    have := h.1
    simp at this
    exact List.length_eq_zero_iff.1 this.symm
  | b :: bs, [], h => by have := h.1; simp at this
  | b :: bs, v :: vs, h => by
    have h1 := h.head
    cases h1
    rw [bytes_cells bs vs h.tail]
    rfl

/-- A slice of bytes as a string. -/
theorem P1.slStr {src dst e : Nat} {j : TI} {x : Operand} {tg : Tag} {xs : List (List AV)} (bs : List UInt8) (hop : o.op = .convert src dst x) (hs : sliceOf E.T src = some (e, j)) (hj : j.d = .int .u8) (hd : (lookT E.T dst).map TI.d = some .str) (hx : evalA E.G t x = .sl tg 1 xs)
    (hb : xs = bs.map byteRow) : P1 E n H H o t (.str bs) :=
  .still (fun cc e => by rw [hop] at e; cases e) (fun c a hH ho sr => by
    obtain ⟨hu, he⟩ := sliceA_spec hs hj
    obtain ⟨i, u, hi, hu2, hok⟩ := lookT_d hd
    have hok' : u = .string := hok
    subst hok'
    have hxr := eval_rel ho sr x
    rw [hx] at hxr
    generalize hv : a.eval x = v at hxr
    obtain ⟨news, n1, n2, n3, n4⟩ := src_sl hxr
    have hfl : xs.flatten = bs.map u8 := by rw [hb]; exact flat_bytes bs
    rw [hfl] at n1
    have hnews := bytes_cells bs news n1
    cases hxr with
    | sl vs hlen hc hzz ht hf hr =>
      rename_i ad len cap
      have hlb : xs.length = bs.length := by rw [hb]; simp
      cases ad with
      | none =>
        have hl0 : len = 0 := by
          rcases Nat.eq_zero_or_pos len with h0 | h0
          · exact h0
          · obtain ⟨ad', e1, _⟩ := hf 0 0 h0 (by omega)
            cases e1
        have hb0 : bs = [] := List.length_eq_zero_iff.1 (by omega)
        subst hb0
        refine ⟨_, ?_, .str⟩
        simp only [execOp, hop, hv, convert, Sem.run_bind, run_underlying hu, run_underlying hu2, Result.andThen_ok, run_underlying he, Conv.bytesToString, Sem.run_pure]
        rfl
      | some ad =>
        have h5 := n4 E.P c.w rfl
        simp only [Builtin.firstCells, Nat.mul_one] at h5
        rw [hlen] at h5
        rw [hnews] at h5
        have h6 := run_bytesToString c.w ad len cap (bs.map fun b => ((b.toNat : Nat) : Int)) h5
        rw [fold_push] at h6
        refine ⟨.string ⟨bs.toArray⟩, ?_, .str⟩
        simp only [execOp, hop, hv, convert, Sem.run_bind, run_underlying hu, run_underlying hu2, Result.andThen_ok, run_underlying he, h6, Sem.run_pure]
        simp)

end
end Go.Gp

/- Panics; interface values. -/
namespace Go.Gp
open Go.RowKit
set_option linter.unusedVariables false
set_option linter.unusedSimpArgs false

section
variable {E : Env} {ro : Option Nat} {n : Nat} {K : Kont} {t : Slots} {H H' H1 L : List AObj} {ops : Array Oper} {o : Oper} {l rest : List Oper} {cl : List Nat} {k d : Nat} {av : AV} {Kc : Slots → List AObj → Prop}

/-- A PANIC. -/
theorem WpOps.panic {x : Operand} {ty : TypeId} {v : AV} (hw : wantedA ops t o = some true) (hop : o.op = .panic x) (hx : evalA E.G t x = .iface ty v) (hk : K (.panic (.iface ty v)) t H) : WpOps E ro n ops (o :: rest) K t H := by
  refine ⟨?_⟩
  intro cd c0 c a e1 e2 e3 e4 e5
  have hr := eval_rel e3 e4 x
  rw [hx] at hr
  refine wpListIn_of (wanted_eq e4 hw) (fun cc e => by rw [hop] at e; cases e) ?_
  generalize hv : a.eval x = u at hr
  cases hr with
  | iface h =>
    rename_i v'
    have hrun : (execOp a.eval o).run E.P c.w = .halt (.panic (.iface ty v')) c.w := by
      simp [execOp, hop, hv, Instr.panic]
    rw [hrun, Oper.uponIn_panic]
    exact ⟨c.ι, c.H, t, .panic (.iface ty v), e1, e3, e4, e5, ⟨_, rfl, .iface h⟩, by rw [e2]; exact hk⟩

/-- A value in an interface. -/
theorem P1.iface {ty : Nat} {x : Operand} {v : AV} (i : TI) (hop : o.op = .makeInterface ty x) (hi : lookT E.T ty = some i) (hd : i.d ≠ .iface) (hx : evalA E.G t x = v) : P1 E n H H o t (.iface ty v) :=
  .still (fun cc e => by rw [hop] at e; cases e) (fun c a hH ho sr => by
    have hr := eval_rel ho sr x
    rw [hx] at hr
    obtain ⟨u, hu, hok⟩ := (Env.ti hi).u
    have hni : ∀ ms, u ≠ .interface ms := by
      rintro ms rfl
      cases hd' : i.d <;> rw [hd'] at hok <;> simp [TD.ok] at hok
      exact hd hd'
    refine ⟨_, ?_, .iface hr⟩
    simp only [execOp, hop, Instr.makeInterface, Sem.run_bind, run_underlying hu, Result.andThen_ok]
    cases u <;> first | exact absurd rfl (hni _) | rfl)

theorem WpOps.iface {ty : Nat} {x : Operand} {v : AV} (i : TI) (hw : wantedA ops t o = some true) (hd : o.dst = some d) (hdn : Nat.blt d n = true) (hop : o.op = .makeInterface ty x) (hi : lookT E.T ty = some i) (hdd : i.d ≠ .iface) (hx : evalA E.G t x = v)
    (hk : WpOps E ro n ops rest K ((d, .iface ty v) :: t) H) : WpOps E ro n ops (o :: rest) K t H := .p1 hw hd hdn (.iface i hop hi hdd hx) hk
end
end Go.Gp

/- Values of which less is said. -/
namespace Go.Gp
open Go.RowKit
set_option linter.unusedVariables false
set_option linter.unusedSimpArgs false

def Sub (u v : AV) : Prop := ∀ c x, RelV c u x → RelV c v x
theorem Sub.refl (u : AV) : Sub u u := fun _ _ h => h
theorem Sub.trans {u v w : AV} (h : Sub u v) (h' : Sub v w) : Sub u w := fun c x hx => h' c x (h c x hx)
theorem Sub.forget (u : AV) : Sub u (forget u) := fun _ _ h => h.forget
theorem Sub.untag {t : Tag} {z : Nat} {xs : List (List AV)} : Sub (.sl t z xs) (.sl .no z xs) := fun _ _ h => by
  cases h with
  | sl vs hl hc hz ht hf hr => exact .sl vs hl hc hz trivial hf hr
theorem Sub.full {z z' : Nat} : Sub (.sl .full z []) (.sl .full z' []) := fun _ _ h => by
  cases h with
  | sl vs hl hc hz ht hf hr => exact .sl (fun _ _ => undef) hl hc (by simp) ht (fun i j hi _ => by have : _ = 0 := hl.symm; omega) (fun i j l e h => by simp at h)
theorem Sub.empty {t : Tag} {z z' : Nat} : Sub (.sl t z []) (.sl .no z' []) := fun _ _ h => by
  cases h with
  | sl vs hl hc hz ht hf hr => exact .sl (fun _ _ => undef) hl hc (by simp) trivial (fun i j hi _ => by have : _ = 0 := hl.symm; omega) (fun i j l e h => by simp at h)
theorem Sub.unk {u : AV} : Sub u .unk := fun _ _ _ => .unk

def SubL : List AV → List AV → Prop
  | [], [] => True
  | u :: us, v :: vs => Sub u v ∧ SubL us vs
  | _, _ => False

theorem SubL.rel {c : Cfg} : ∀ {us vs : List AV} {xs : List Value}, SubL us vs → RelL c us xs → RelL c vs xs
  | [], [], xs, _, h => h
  | u :: us, v :: vs, [], _, h => by have := h.1; simp at this
  | u :: us, v :: vs, x :: xs, h, hr => RelL.cons (h.1 c x hr.head) (SubL.rel h.2 hr.tail)
  | [], _ :: _, _, h, _ => h.elim
  | _ :: _, [], _, h, _ => h.elim
theorem SubL.length : ∀ {us vs : List AV}, SubL us vs → us.length = vs.length
  | [], [], _ => rfl
  | _ :: _, _ :: _, h => by simp [SubL.length h.2]
  | [], _ :: _, h => h.elim
  | _ :: _, [], h => h.elim
theorem SubL.get : ∀ {us vs : List AV} {i : Nat} {u v : AV}, SubL us vs → us[i]? = some u → vs[i]? = some v → Sub u v
  | u :: us, v :: vs, 0, a, b, h, h1, h2 => by simp at h1 h2; subst h1; subst h2; exact h.1
  | u :: us, v :: vs, i + 1, a, b, h, h1, h2 => SubL.get h.2 (by simpa using h1) (by simpa using h2)
  | [], [], _, _, _, _, h1, _ => by simp at h1
  | [], _ :: _, _, _, _, h, _, _ => h.elim
  | _ :: _, [], _, _, _, h, _, _ => h.elim
theorem Sub.agg {us vs : List AV} (h : SubL us vs) : Sub (.agg us) (.agg vs) := fun c x hx => by
  cases hx with
  | agg ws hl hr => have := h.rel ⟨hl, hr⟩; exact .agg ws this.1 this.2
theorem Sub.tup {us vs : List AV} (h : SubL us vs) : Sub (.tup us) (.tup vs) := fun c x hx => by
  cases hx with
  | tup ws hl hr => have := h.rel ⟨hl, hr⟩; exact .tup ws this.1 this.2

def AgreeS : Slots → Slots → Prop
  | [], _ => True
  | (d, v) :: r, t => Sub (look t d) v ∧ AgreeS r t

theorem AgreeS.sub : ∀ {T t : Slots}, AgreeS T t → ∀ i, Sub (look t i) (look T i)
  | [], t, _, i => Sub.unk
  | (d, v) :: r, t, h, i => by
    show Sub (look t i) (bif Nat.beq d i then v else look r i)
    cases hb : Nat.beq d i with
    | true =>
      have := Nat.eq_of_beq_eq_true hb
      subst this
      exact h.1
    | false => exact AgreeS.sub h.2 i

section
variable {E : Env} {ro : Option Nat} {n : Nat} {K : Kont} {t : Slots} {H H' H1 L : List AObj} {ops : Array Oper} {o : Oper} {l rest : List Oper} {cl : List Nat} {k d : Nat} {av : AV} {Kc : Slots → List AObj → Prop}

/-- A box of its own, less said of its cells. -/
theorem WpA.recell {code : Code} {j : Nat} {cs cs' : List AV} (hL : L[j]? = some (.cells cs)) (hs : SubL cs cs') (h : WpA E ro n code K t (H ++ L.set j (.cells cs'))) : WpA E ro n code K t (H ++ L) := by
  refine ⟨?_⟩
  intro cd c0 c a e1 e2 e3 e4 e5
  have hcs : c.H[H.length + j]? = some (.cells cs) := by rw [e2]; exact app_get rfl hL
  obtain ⟨r1, r2⟩ := Gp.recell (cs' := cs') e3.hr hcs hs.length.symm (fun i a0 a1 v h1 h2 hr => hs.get h2 h1 _ _ hr)
  refine h.out cd c0 { c with H := c.H.set (H.length + j) (.cells cs') } a (e1.trans r1) ?_ (e3.step r1 r2) (e4.mono r1) (e5.mono r1 rfl)
  show c.H.set (H.length + j) _ = _
  rw [e2, set_app]

end
end Go.Gp

/- Shifts by a number that is computed. -/
namespace Go.Gp
open Go.RowKit
set_option linter.unusedVariables false
set_option linter.unusedSimpArgs false
section
variable {E : Env} {n : Nat} {t : Slots} {H : List AObj} {o : Oper}
theorem P1.shr {ty : Nat} {x y : Operand} {yt : TypeId} {k k' : IntKind} {p q : Int} (hop : o.op = .binOp .shr ty x y yt) (hx : evalA E.G t x = .int k p) (hy : evalA E.G t y = .int k' q) (h0 : 0 ≤ q) : P1 E n H H o t (.int k (p.fdiv (2 ^ min q.toNat k.bits))) :=
  .still (fun cc e => by rw [hop] at e; cases e) (fun c a hH ho sr => by
    have hxr := eval_rel ho sr x
    have hyr := eval_rel ho sr y
    rw [hx] at hxr
    rw [hy] at hyr
    generalize hv : a.eval x = v at hxr
    generalize hv2 : a.eval y = v2 at hyr
    cases hxr; cases hyr
    refine ⟨_, ?_, .int⟩
    simp only [execOp, hop, hv, hv2, Sem.run_bind]
    rw [eqGuard_plain (by simp) (by simp)]
    simp [binOp, Op.shift]
    intro h
    omega)
theorem P1.shl {ty : Nat} {x y : Operand} {yt : TypeId} {k k' : IntKind} {p q : Int} (hop : o.op = .binOp .shl ty x y yt) (hx : evalA E.G t x = .int k p) (hy : evalA E.G t y = .int k' q) (h0 : 0 ≤ q) : P1 E n H H o t (.int k (k.wrap (p * 2 ^ min q.toNat k.bits))) :=
  .still (fun cc e => by rw [hop] at e; cases e) (fun c a hH ho sr => by
    have hxr := eval_rel ho sr x
    have hyr := eval_rel ho sr y
    rw [hx] at hxr
    rw [hy] at hyr
    generalize hv : a.eval x = v at hxr
    generalize hv2 : a.eval y = v2 at hyr
    cases hxr; cases hyr
    refine ⟨_, ?_, .int⟩
    simp only [execOp, hop, hv, hv2, Sem.run_bind]
    rw [eqGuard_plain (by simp) (by simp)]
    simp [binOp, Op.shift]
    intro h
    omega)
end
end Go.Gp
