/- Part of a proof: GpA42, GpA49, GpA48, GpA43 -/
import Derived.Test.YtlmjiblfmhaicaaGreatDoorK9
import Derived.Test.YtlmjiblfmhaicaaGreatDoorK11
import Derived.Maps.Own
import Derived.Sort.KeysCollected

set_option linter.unusedSectionVars false

/- The keys of a map, sorted: the kit's contract taken over. -/
namespace Go.Gp
open Go.RowKit Go.Proofs
set_option linter.unusedVariables false
set_option linter.unusedSimpArgs false

/-- A call that turns nothing that lay before. -/
theorem Ext.of_below {c : Cfg} {w' : World} (h : HR c) (hb : Below c.w.heap.size c.w w') : Ext c ⟨c.ι, c.H, w'⟩ where
  fz := fun p v hp hf => ⟨(World.cell?_of_block (hb.block _ hp)).trans hf.1, hf.2⟩
  bx := fun _ _ h => h
  tl := fun id n z hn => .inr ⟨n, hn, Nat.le_refl _, fun _ => ⟨rfl, fun b arr e hi ha => ⟨arr, (hb.block b (h.bound _ _ hi)).trans ha, rfl⟩⟩⟩
  dd := fun _ h => h
  sz := fun _ b _ _ ⟨arr, e, fr, h1, h2⟩ => ⟨arr, e, fr, (hb.block b (Array.getElem?_eq_some_iff.1 h1).1).trans h1, h2⟩
  size := hb.size
  os := hb.os
  tape := hb.tape
  output := hb.output
  hlen := Nat.le_refl _
  outer := fun b hlt _ => hb.block b hlt
  nw := fun id b o ho hl hi _ => ⟨id, o, ho, hl, hi⟩
theorem HR.of_below {c : Cfg} {w' : World} (h : HR c) (hb : Below c.w.heap.size c.w w') : HR ⟨c.ι, c.H, w'⟩ where
  dom := h.dom
  ex := h.ex
  obj := fun id b o ho hi hl => (h.obj id b o ho hi hl).mono (Ext.of_below h hb).toExt0 (hb.block b (h.bound _ _ hi))
  inj := h.inj
  bound := fun id b hi => Nat.lt_of_lt_of_le (h.bound id b hi) hb.size

end Go.Gp

/- A box of its own that is given up: its pointer reads what is frozen. -/
namespace Go.Gp
set_option linter.unusedVariables false
set_option linter.unusedSimpArgs false
theorem RelV.killP {c : Cfg} {m q : Nat} {cs : List AV} {v : Value} (h : HR c) (hH : c.H[m + q]? = some (.cells cs)) (hr : RelV c (.ptr m q 0) v) : RelV (c.kill (m + q)) (.rp cs) v := by
  have hid := get_lt hH
  have hx := Ext.kill h hH
  cases hr with
  | ptr hb =>
    rename_i b
    obtain ⟨o', g1, g2, g3⟩ := hb
    obtain ⟨arr, e, vs, h1, h2, h3, h4, h5⟩ := box_cells h hH g3
    have hvl : vs.length = cs.length := h3.1.symm
    refine .rp (fun i => (vs[i]?).getD undef) rfl (fun i hi => ?_) (fun i e he => ?_)
    · have hv : vs[i]? = some (vs[i]'(by omega)) := List.getElem?_eq_getElem (by omega)
      have e2 : (⟨b, 0, none⟩ : Addr).add i = ⟨b, i, none⟩ := by
        unfold Addr.add
        split
        · rename_i h0; rw [h0]
        · simp
      rw [e2, hv]
      refine ⟨cell?_of h1 (h4 _ _ hv), ?_⟩
      rintro ⟨k, x, w1, w2, w3⟩
      rcases (set_get hid).1 w1 with ⟨rfl, rfl⟩ | ⟨hne, w1⟩
      · exact w3
      · have hl1 : x.live = true := by cases x <;> first | rfl | exact w3.elim
        exact hne (h.inj k (m + q) b _ _ w1 hH hl1 rfl w2 g3)
    · obtain ⟨u, hu, hru⟩ := h3.get he
      simp only [hu, Option.getD_some]
      exact hru.mono hx.toExt0

section
variable {E : Env} {ro : Option Nat} {n : Nat} {K : Kont} {t : Slots} {H L : List AObj}
theorem WpA.freezeP {code : Code} {d j : Nat} {cs : List AV} (hd : look t d = .ptr H.length j 0) (hL : L[j]? = some (.cells cs)) (h : WpA E ro n code K ((d, .rp cs) :: t) (H ++ L.set j .dead)) : WpA E ro n code K t (H ++ L) := by
  refine ⟨?_⟩
  intro cd c0 c a e1 e2 e3 e4 e5
  have hcs : c.H[H.length + j]? = some (.cells cs) := by rw [e2]; exact app_get rfl hL
  have hx := Ext.kill e3.hr hcs
  have hh := e3.hr.kill hcs
  refine h.out cd c0 (c.kill (H.length + j)) a (e1.trans hx) (by show c.H.set _ _ = _; rw [e2, set_app]) (e3.step hx hh) ⟨e4.size, fun i => ?_⟩ (e5.mono hx rfl)
  show RelV _ (bif Nat.beq d i then _ else look t i) _
  cases hb : Nat.beq d i with
  | true =>
    have := Nat.eq_of_beq_eq_true hb
    subst this
    have hr := e4.rel d
    rw [hd] at hr
    exact RelV.killP e3.hr hcs hr
  | false => exact (e4.rel i).mono hx.toExt0
end
end Go.Gp



/- Cells of arrays at a computed place; words of 32 bits. -/
namespace Go.Gp
open Go.RowKit
set_option linter.unusedVariables false
set_option linter.unusedSimpArgs false

section
variable {E : Env} {ro : Option Nat} {n : Nat} {K : Kont} {t : Slots} {H H' H1 L X : List AObj} {ops : Array Oper} {o : Oper} {l rest : List Oper} {d : Nat} {av : AV}

theorem WpOps.u1 (hw : wantedA ops t o = some true) (hd : o.dst = none) (h : U1 E n H H1 o t) (hk : WpOps E ro n ops rest K t H1) : WpOps E ro n ops (o :: rest) K t H := .unit hw hd h.nd h.out hk
end

/-! ### Words -/
abbrev u32 (w : UInt32) : AV := .int .u32 (w.toNat : Int)
end Go.Gp
