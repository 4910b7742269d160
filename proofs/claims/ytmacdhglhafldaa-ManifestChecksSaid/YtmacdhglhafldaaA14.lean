/- Slots that are kept in view; loops over them. -/
import Derived.Test.YtmacdhglhafldaaA13
namespace Go.Gp
open Go.RowKit
set_option linter.unusedVariables false
set_option linter.unusedSimpArgs false

def Agree : Slots → Slots → Prop
  | [], _ => True
  | (d, v) :: r, t => look t d = v ∧ Agree r t

theorem Agree.less : ∀ {T t : Slots}, Agree T t → Less (look T) (look t)
  | [], t, _ => fun i => .inl rfl
  | (d, v) :: r, t, h => fun i => by
    show (bif Nat.beq d i then v else look r i) = .unk ∨ (bif Nat.beq d i then v else look r i) = look t i
    cases hb : Nat.beq d i with
    | true =>
      have := Nat.eq_of_beq_eq_true hb
      subst this
      exact .inr h.1.symm
    | false => exact Agree.less h.2 i

section
variable {E : Env} {ro : Option Nat} {n : Nat} {K : Kont} {t : Slots} {H : List AObj}

theorem SR.agree {c : Cfg} {T : Slots} {a : Act} (s : SR c n t a) (h : Agree T t) : SR c n T a := (s.sf.less h.less).sr

theorem WpA.weak {code : Code} {T : Slots} (h : Agree T t) (hw : WpA E ro n code K T H) : WpA E ro n code K t H :=
  ⟨fun cd c0 c a e1 e2 e3 e4 e5 => hw.out cd c0 c a e1 e2 e3 (e4.agree h) e5⟩
theorem WpOps.weak {ops : Array Oper} {l : List Oper} {T : Slots} (h : Agree T t) (hw : WpOps E ro n ops l K T H) : WpOps E ro n ops l K t H :=
  ⟨fun cd c0 c a e1 e2 e3 e4 e5 => hw.out cd c0 c a e1 e2 e3 (e4.agree h) e5⟩

/-- A LOOP: a: what is known at a round's head. -/
theorem WpA.loopS {α : Type} {body : Code} (T : α → Slots) (Hf : α → List AObj) (ok : α → Prop) (me : α → Nat) (a0 : α) (h0 : ok a0) (hT : Agree (T a0) t) (hH : H = Hf a0)
    (hr : ∀ a, ok a → WpA E ro n body (thenK (fun t' H' => ∃ a', ok a' ∧ me a' < me a ∧ Agree (T a') t' ∧ H' = Hf a') K) (T a) (Hf a)) : WpA E ro n (.loop body) K t H :=
  .loop (fun m t' H' => ∃ a, ok a ∧ me a = m ∧ Agree (T a) t' ∧ H' = Hf a) (me a0) ⟨a0, h0, rfl, hT, hH⟩ fun m t' H' ⟨a, h1, h2, h3, h4⟩ => by
    subst h4; subst h2
    refine (WpA.weak h3 (hr a h1)).mono fun x t'' H'' hx => ?_
    cases x with
    | normal =>
      obtain ⟨a', g1, g2, g3, g4⟩ := hx
      exact ⟨me a', g2, a', g1, rfl, g3, g4⟩
    | _ => exact hx
end

def BdS (n : Nat) : Slots → Prop
  | [] => True
  | (_, v) :: r => Bd n v ∧ BdS n r

theorem BdS.look {n : Nat} : ∀ {T : Slots}, BdS n T → ∀ i, Bd n (look T i)
  | [], _, i => .unk
  | (d, v) :: r, h, i => by
    show Bd n (bif Nat.beq d i then v else Gp.look r i)
    cases Nat.beq d i
    · exact BdS.look h.2 i
    · exact h.1

/-- WHAT IS LAID IN BETWEEN MAY BE LEFT OUT OF SIGHT. -/
theorem WpA.scope {E : Env} {ro : Option Nat} {n : Nat} {K : Kont} {t : Slots} {H : List AObj} {code : Code}
    (h : WpA E ro n code (fun x t' H' => K x t' H' ∨ ∃ H1 L T, H' = H1 ++ L ∧ H1.length = H.length ∧ TrOk H H1 ∧ Agree T t' ∧ BdS H.length T ∧ (∀ v, x = .panic v → Bd H.length v) ∧ K x T H1) t H) : WpA E ro n code K t H := by
  refine ⟨?_⟩
  intro cd c0 c a e1 e2 e3 e4 e5
  refine wpIn_mono (h.out cd c c a (Ext.refl c) e2 e3 e4 e5) ?_
  rintro e a' w' ⟨ι, H', t', x, h1, h2, h3, h4, h5, h6⟩
  rcases h6 with h6 | ⟨H1, L, T, q1, q2, q3, q4, q5, q6, q7⟩
  · exact ⟨ι, H', t', x, e1.trans h1, h2, h3, h4, h5, h6⟩
  · subst e2
    have hE := h1.trunc (n := c.H.length) rfl
    have hbd : HBd c.H.length H' := by
      intro o ho
      obtain ⟨i, hi⟩ := List.getElem?_of_mem ho
      rw [q1, ← q2, List.take_left] at hi
      rcases q3 i o hi with g | g
      · exact e3.hr.obd g
      · exact g
    have hok := e3.step hE (h2.hr.trunc hbd)
    have hs := h3.agree q4
    have hH : ((⟨ι, H', w'⟩ : Cfg).trunc c.H.length).H = H1 := by
      show H'.take c.H.length = H1
      rw [q1, ← q2, List.take_left]
    refine Post.mk (c := (⟨ι, H', w'⟩ : Cfg).trunc c.H.length) x (e1.trans hE) hok ⟨hs.size, fun i => (hs.rel i).trunc (q5.look i)⟩ ?_ ?_ (by rw [hH]; exact q7)
    · obtain ⟨D, d1, d2, d3⟩ := h4
      refine ⟨D, d1, d2, fun b hb => ?_⟩
      obtain ⟨d4, d5, d6⟩ := d3 b hb
      exact ⟨d4, d5, fun id o ho hl hi => d6 id o (trunc_get.1 ho).2 hl (trunc_ι.1 hi).2⟩
    · cases x <;> cases e <;> first | exact h5 | exact h5.elim | skip
      obtain ⟨v, g1, g2⟩ := h5
      exact ⟨v, g1, g2.trunc (q6 _ rfl)⟩

theorem wrap64 {x : Int} (h1 : -9223372036854775808 ≤ x) (h2 : x < 9223372036854775808) : IntKind.i64.wrap x = x := by
  simp only [IntKind.wrap, IntKind.bits, IntKind.signed]
  simp
  omega

theorem wrapu64 {x : Int} (h1 : 0 ≤ x) (h2 : x < 18446744073709551616) : IntKind.u64.wrap x = x := by
  simp only [IntKind.wrap, IntKind.bits, IntKind.signed]
  simp
  omega
end Go.Gp
