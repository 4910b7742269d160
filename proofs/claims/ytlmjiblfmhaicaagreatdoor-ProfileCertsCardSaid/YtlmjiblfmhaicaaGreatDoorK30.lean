/- Part of a proof: GhL20 -/
import Derived.Test.YtlmjiblfmhaicaaGreatDoorK15
import Derived.Test.YtlmjiblfmhaicaaGreatDoorK29
import Derived.Test.YtlmjiblfmhaicaaGreatDoorRows
import Derived.Lib.LaidTab
import Derived.MakeChecks
import Derived.Stop.LaidErr
import Derived.Shelf.Vars

set_option linter.unusedSectionVars false

/- What the rows' conditions say of the known package variables. -/
namespace Go.Gp.Tryz
open Go.Proofs Go.Proofs.YtlmjiblfmhaicaaGreatDoor Go.RowKit
set_option linter.unusedVariables false
set_option linter.unusedSectionVars false
set_option maxRecDepth 100000
--@noinst
theorem own : ownKnob Tryz.prog.godebug = none := by kernel_rfl
theorem laidOut : laidOutB Tryz.prog = true := by kernel_rfl

theorem starE : "*" ++ "errors.errorString" = "*errors.errorString" := by decide
theorem rowErr (u : TypeId) (h : Tryz.prog.typeName? 3 u = some "*errors.errorString") : u = 182 :=
  typeName_ptr_named (nm := "errors.errorString") (by rw [starE]; kernel_rfl) (by kernel_rfl) (by decide) u (by rw [starE]; exact h)
theorem one_rel {W : World} {g : Nat} {a : AV} {v : Value} (h : W.cell? ⟨g, 0, none⟩ = some v) (hr : RelV (Cfg.bare W) a v) : RelV (Cfg.bare W) (.rp [a]) (.pointer (some ⟨g, 0, none⟩)) := by
  refine .rp (fun _ => v) rfl (fun i hi => ?_) (fun i e he => ?_)
  · have : i = 0 := by simpa using hi
    subst this
    exact bare_fz h
  · cases i with
    | zero => simp at he; subst he; exact hr
    | succ i => simp at he
theorem known_of {W : World} (hL : laidMetH Tryz.prog Rows.profileCertsRow.laid W) (hsh : W.ShapedOpen Tryz.prog) :
    ∃ inst : Inhabited MaxLenT, (∀ k cs, (@E inst).G k = some cs → RelV (Cfg.bare W) (.rp cs) (.pointer (some ⟨k, 0, none⟩))) ∧ (∀ k cs, (@E inst).G k = some cs → 2 ≤ cs.length → gBlk (Cfg.bare W) k cs.length) := by
  rw [MakeChecks.laidMetH_plain _ _ _ (by kernel_rfl)] at hL
  have hL : laidMet Tryz.prog [("math/bits.deBruijn32tab", Rows.laid_math_bits_deBruijn32tab), ("math/bits.deBruijn64tab", Rows.laid_math_bits_deBruijn64tab), ("internal/strconv.uint64pow10", Rows.laid_internal_strconv_uint64pow10), ("unicode/utf8.acceptRanges", Rows.laid_unicode_utf8_acceptRanges), ("strconv.ErrRange", Rows.laid_strconv_ErrRange), ("strconv.ErrSyntax", Rows.laid_strconv_ErrSyntax), ("unicode/utf8.first", Rows.laid_unicode_utf8_first)] W := hL
  obtain ⟨m, hm⟩ := cell_of_shapedOpen_int (g := 0) (t := 3) (zero := #[.int .i64 0]) (k := .i64) hsh (of_decide_eq_true (by kernel_rfl)) (by kernel_rfl) (by kernel_rfl) (by kernel_rfl) (by kernel_rfl) Tryz.underlying3
  have hT := Lib.tabIs_of_head (g := 3) (t := 198) (e := 22) (n := 20) (zs := pow10Z) (k := .u64) (by kernel_rfl) (by kernel_rfl) Tryz.underlying198 Tryz.underlying22 (by kernel_rfl) (by kernel_rfl) hL.tail.tail
  obtain ⟨a2, s2, v2, _, _, _⟩ := laid_sentinel (g := 2) hL.tail.tail.tail.tail (by kernel_rfl) (by kernel_rfl) Tryz.underlying116 rowErr Tryz.underlying182 Tryz.underlying184 rfl rfl Tryz.underlying9 (by kernel_rfl) (by kernel_rfl)
  obtain ⟨a1, s1, v1, _, _, _⟩ := laid_sentinel (g := 1) hL.tail.tail.tail.tail.tail (by kernel_rfl) (by kernel_rfl) Tryz.underlying116 rowErr Tryz.underlying182 Tryz.underlying184 rfl rfl Tryz.underlying9 (by kernel_rfl) (by kernel_rfl)
  have c1 := World.var?_cell (by kernel_rfl : Tryz.prog.globalNamed "strconv.ErrSyntax" = some 1) v1 0
  have c2 := World.var?_cell (by kernel_rfl : Tryz.prog.globalNamed "strconv.ErrRange" = some 2) v2 0
  have c3 := fun i hi => hT.cell (by kernel_rfl : Tryz.prog.globalNamed "internal/strconv.uint64pow10" = some 3) i hi
  have hb3 : ∃ e fr, W.heap[3]? = some (.cells (pow10Z.map fun z => Value.int .u64 z).toArray e fr) := by
    have hT' := hT
    unfold Lib.TabIs World.var? at hT'
    rw [(by kernel_rfl : Tryz.prog.globalNamed "internal/strconv.uint64pow10" = some 3)] at hT'
    simp only [Option.bind_some] at hT'
    split at hT'
    · rename_i cs t fr hh
      injection hT' with hT'
      subst hT'
      exact ⟨t, fr, hh⟩
    · cases hT'
  refine ⟨⟨⟨m⟩⟩, fun k cs h => ?_, fun k cs h h2 => ?_⟩
  · have h' : (bif Nat.beq k 0 then some [AV.int .i64 m] else bif Nat.beq k 1 then some [.iface 182 .unk] else bif Nat.beq k 2 then some [.iface 182 .unk] else bif Nat.beq k 3 then some (pow10Z.map fun z => .int .u64 z) else none) = some cs := h
    cases e0 : Nat.beq k 0 with
    | true =>
      rw [e0] at h'
      obtain rfl : k = 0 := Nat.eq_of_beq_eq_true e0
      cases h'
      exact one_rel hm .int
    | false =>
      rw [e0, cond_false] at h'
      cases e1 : Nat.beq k 1 with
      | true =>
        rw [e1] at h'
        obtain rfl : k = 1 := Nat.eq_of_beq_eq_true e1
        cases h'
        exact one_rel (by simpa using c1) (.iface .unk)
      | false =>
        rw [e1, cond_false] at h'
        cases e2 : Nat.beq k 2 with
        | true =>
          rw [e2] at h'
          obtain rfl : k = 2 := Nat.eq_of_beq_eq_true e2
          cases h'
          exact one_rel (by simpa using c2) (.iface .unk)
        | false =>
          rw [e2, cond_false] at h'
          cases e3 : Nat.beq k 3 with
          | true =>
            rw [e3] at h'
            obtain rfl : k = 3 := Nat.eq_of_beq_eq_true e3
            cases h'
            exact tab_rel c3
          | false => rw [e3] at h'; cases h'
  · have h' : (bif Nat.beq k 0 then some [AV.int .i64 m] else bif Nat.beq k 1 then some [.iface 182 .unk] else bif Nat.beq k 2 then some [.iface 182 .unk] else bif Nat.beq k 3 then some (pow10Z.map fun z => .int .u64 z) else none) = some cs := h
    cases e0 : Nat.beq k 0 with
    | true => rw [e0] at h'; cases h'; simp at h2
    | false =>
      rw [e0, cond_false] at h'
      cases e1 : Nat.beq k 1 with
      | true => rw [e1] at h'; cases h'; simp at h2
      | false =>
        rw [e1, cond_false] at h'
        cases e2 : Nat.beq k 2 with
        | true => rw [e2] at h'; cases h'; simp at h2
        | false =>
          rw [e2, cond_false] at h'
          cases e3 : Nat.beq k 3 with
          | true =>
            rw [e3] at h'
            obtain rfl : k = 3 := Nat.eq_of_beq_eq_true e3
            cases h'
            obtain ⟨e, fr, hh⟩ := hb3
            exact ⟨_, e, fr, hh, rfl, fun id o ho => by cases ho⟩
          | false => rw [e3] at h'; cases h'
end Go.Gp.Tryz
