/- Part of a proof: GdL0 -/
import Derived.Test.YtmacdhglhafldaaDoorK17
import Derived.Test.YtmacdhglhafldaaDoorK18
import Derived.Test.YtmacdhglhafldaaDoorRows
import Derived.Lib.LaidTab
import Derived.MakeChecks

/- What the rows' conditions say of the known package variable. -/
namespace Go.Gp.Tryd
open Go.Proofs Go.Proofs.YtmacdhglhafldaaDoor
set_option linter.unusedVariables false
set_option maxRecDepth 100000
def numOf : AV → Int
  | .int _ z => z
  | _ => 0
def rootsZ : List Int := g1.map numOf
theorem roots_g1 : rootsZ.map (fun z => AV.int .u32 z) = g1 := rfl
theorem hG_of {W : World} (hL : laidMetH Tryd.prog [("gatepath/digest.roots", Rows.laid_gatepath_digest_roots)] W) :
    ∀ k cs, E.G k = some cs → RelV (Cfg.bare W) (.rp cs) (.pointer (some ⟨k, 0, none⟩)) := by
  rw [MakeChecks.laidMetH_plain _ _ _ (by kernel_rfl)] at hL
  have e : (Rows.laid_gatepath_digest_roots : DataW Unit) = Lib.tabData .u32 rootsZ := rfl
  rw [e] at hL
  have hT := Lib.tabIs_of_head (g := 1) (t := 117) (e := 116) (n := 64) (by kernel_rfl) (by kernel_rfl) (by kernel_rfl) (by kernel_rfl) (by kernel_rfl) (by kernel_rfl) hL
  intro k cs h
  have h' : (bif Nat.beq k 1 then some g1 else none) = some cs := h
  cases hk : Nat.beq k 1 with
  | false => rw [hk] at h'; cases h'
  | true =>
    rw [hk] at h'
    cases h'
    obtain rfl : k = 1 := Nat.eq_of_beq_eq_true hk
    rw [← roots_g1]
    exact tab_rel fun i hi => hT.cell (by kernel_rfl) i hi
end Go.Gp.Tryd
