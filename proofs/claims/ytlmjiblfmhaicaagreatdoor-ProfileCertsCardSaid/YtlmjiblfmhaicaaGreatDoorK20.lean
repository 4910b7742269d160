/- Part of a proof: GhQ22, GhQ23 -/
import Derived.Test.YtlmjiblfmhaicaaGreatDoorK19
import Derived.Lib.ItoaLen

set_option linter.unusedSectionVars false

/- Locators: what the program writes and checks. -/
namespace Go.Gp.Tryz
variable [Inhabited MaxLenT]
open Go.Proofs
set_option linter.unusedVariables false
set_option linter.unusedSimpArgs false
set_option linter.unusedSectionVars false
set_option maxHeartbeats 4000000

structure LocSm (l : Loc) : Prop where
  host : l.host.length ≤ 1000000
  p0 : -9223372036854775808 ≤ l.port
  p1 : l.port ≤ 9223372036854775807
  parts : l.parts.length ≤ 1000000
  join : (Lib.join l.parts [47]).length ≤ 1000000
theorem wr_cases (l : Loc) : wr l = ((if l.sch = 1 then rsyncS ++ markS else httpsS ++ markS) ++ l.host ++ (if l.port = 0 then [] else 58 :: Lib.itoa l.port) ++ (47 :: Lib.join l.parts [47]) ++ (if l.dir = true ∧ l.parts ≠ [] then [47] else [])) := by
  unfold wr preS portS endS
  by_cases h1 : l.sch = 1
  · rw [if_pos h1, if_pos h1]; simp
  · rw [if_neg h1, if_neg h1]; simp
theorem strRows_pos (l : List (List UInt8)) : decide ((((strRows l).length : Nat) : Int) > 0) = decide (l ≠ []) := by
  cases l with
  | nil => rfl
  | cons a l => rw [strRows_len]; simp
theorem write_A (l : Loc) (H : List AObj) (hl : LocSm l) : CallsA E 81 [.agg l.cells] H (Is H (.str (wr l))) := by
  have hh := hl.host
  have hj := hl.join
  have hJ := fun X => join_A l.parts [47] X hl.parts hl.join
  have hI := fun X => itoa_A l.port X hl.p0 hl.p1
  have hil := Lib.itoa_length_le l.port hl.p0 hl.p1
  have hp := strRows_pos l.parts
  have hw := wr_cases l
  obtain ⟨sch, host, port, parts, dir⟩ := l
  dsimp only at *
  generalize Lib.join parts [47] = J at *
  generalize Lib.itoa port = I at *
  generalize wr ⟨sch, host, port, parts, dir⟩ = W at *
  refine .enter Tryz.func81 rfl rfl rfl 39 Tryz.ntmps81 (Nat.le_of_ble_eq_true rfl) ?_
  repeat' first
    | (refine WpOps.addS rfl rfl rfl rfl rfl rfl (by simp; omega) ?_)
    | refine WpA.seq ?_
    | refine WpA.region ?_
    | refine WpOps.op _ rfl rfl rfl rfl rfl ?_
    | refine WpOps.box _ rfl rfl rfl rfl rfl ?_
    | refine WpOps.skip rfl rfl rfl ?_
    | (refine WpOps.call rfl rfl rfl rfl rfl (by exact hJ _) ?_; rintro _ _ ⟨rfl, rfl⟩)
    | (refine WpOps.call rfl rfl rfl rfl rfl (by exact hI _) ?_; rintro _ _ ⟨rfl, rfl⟩)
    | refine WpOps.gsplit _ rfl rfl rfl (fun h => ?_) (fun h => ?_)
    | refine WpOps.nil ?_
    | refine WpA.ret ?_
    | refine WpA.skip ?_
    | refine WpA.condF rfl ?_
    | refine WpA.cond _ rfl (fun h => ?_) (fun h => ?_)
  all_goals
    refine retK.ok rfl rfl (congrArg AV.str ?_) .str
    rw [hw]
    clear hw hJ hI hil hh hj hl
    simp only [strRows_len] at *
    simp_all [rsyncS, markS, httpsS]
end Go.Gp.Tryz

/- Locators: what the program checks. -/
namespace Go.Gp.Tryz
variable [Inhabited MaxLenT]
open Go.Proofs
set_option linter.unusedVariables false
set_option linter.unusedSimpArgs false
set_option linter.unusedSectionVars false
set_option maxHeartbeats 4000000

theorem notName_A (s : List UInt8) (H : List AObj) : CallsA E 105 [.str s] H (Is H (.bool (!name s))) := by
  refine .enter Tryz.func105 rfl rfl rfl 6 Tryz.ntmps105 (Nat.le_of_ble_eq_true rfl) ?_
  repeat' first
    | refine WpA.seq ?_
    | refine WpA.region ?_
    | refine WpOps.op _ rfl rfl rfl rfl rfl ?_
    | (refine WpOps.call rfl rfl rfl rfl rfl (by exact Name_A _ _) ?_; rintro _ _ ⟨rfl, rfl⟩)
    | refine WpOps.nil ?_
    | refine WpA.ret ?_
  exact retK.ok rfl rfl rfl .bool
theorem goodLoc_eq (l : Loc) : goodLoc l = (((l.sch == 1) || (l.sch == 2)) && hostOk l.host && decide (l.port ≥ 0) && decide (l.port ≤ 65535) && (l.port != usualP l.sch) && (decide ((((strRows l.parts).length : Nat) : Int) > 0) || l.dir) && !(l.parts.any fun s => !name s)) := by
  have h1 : decide (l.sch = 1) = (l.sch == 1) := rfl
  have h2 : decide (l.sch = 2) = (l.sch == 2) := rfl
  have h3 : (!decide (l.port = usualP l.sch)) = (l.port != usualP l.sch) := rfl
  have h4 : (!decide (l.parts = [])) = decide ((((strRows l.parts).length : Nat) : Int) > 0) := by rw [strRows_pos]; simp
  have h5 : l.parts.all name = !(l.parts.any fun s => !name s) := by rw [List.all_eq_not_any_not]
  unfold goodLoc
  rw [h1, h2, h3, h4, h5]
  simp only [Bool.and_assoc, ge_iff_le]
theorem Check_A (l : Loc) (H : List AObj) (hl : LocSm l) : CallsA E 80 [.agg l.cells] H (Is H (.int .i64 (chkE l))) := by
  have hW := fun X => write_A l X hl
  have hHo := fun X => host_A l.host X hl.host
  have hC := fun X => containsS_A l.parts (.func 105 []) (fun s => !name s) X hl.parts (fun L s _ => AppA.of_calls (caps := []) (args := [.str s]) (notName_A s _))
  have hg := goodLoc_eq l
  have hp := strRows_len l.parts
  have hm : decide ((((strRows l.parts).length : Nat) : Int) > 10) = decide (10 < l.parts.length) := by rw [hp]; rw [decide_eq_decide]; omega
  have hc : chkE l = if decide (10 < l.parts.length) = true then 4 else if goodLoc l = false then 8 else if decide (((((wr l).length : Nat) : Int)) > 200) = true then 4 else 0 := by
    unfold chkE
    simp only [decide_eq_true_eq]
    by_cases h : 200 < (wr l).length
    · have h' : (((wr l).length : Nat) : Int) > 200 := by omega
      rw [if_pos h, if_pos h']
    · have h' : ¬ (((wr l).length : Nat) : Int) > 200 := by omega
      rw [if_neg h, if_neg h']
  refine .enter Tryz.func80 rfl rfl rfl 64 Tryz.ntmps80 (Nat.le_of_ble_eq_true rfl) ?_
  rw [hc]
  clear hc hl
  generalize wr l = W at *
  obtain ⟨sch, host, port, parts, dir⟩ := l
  dsimp only at *
  generalize (parts.any fun s => !name s) = an at *
  generalize hostOk host = ho at *
  generalize goodLoc ⟨sch, host, port, parts, dir⟩ = gd at *
  by_cases h10 : 10 < parts.length
  · have hm1 := hm.trans (decide_eq_true h10)
    rw [if_pos (decide_eq_true h10)]
    repeat' first
      | refine WpA.condT (congrArg AV.bool hm1) ?_
      | refine WpA.seq ?_
      | refine WpA.region ?_
      | refine WpOps.op _ rfl rfl rfl rfl rfl ?_
      | refine WpOps.box _ rfl rfl rfl rfl rfl ?_
      | refine WpOps.nil ?_
      | refine WpA.ret ?_
    exact retK.ok rfl rfl rfl .int
  · have hm1 := hm.trans (decide_eq_false h10)
    rw [if_neg (by simpa using h10)]
    have hu : usualP sch = 873 ∧ (sch == 1) = true ∨ usualP sch = 443 ∧ (sch == 1) = false := by
      by_cases h : sch = 1
      · left; rw [usualP, if_pos h]; exact ⟨rfl, by simpa using h⟩
      · right; rw [usualP, if_neg h]; exact ⟨rfl, by simpa using h⟩
    rcases hu with ⟨hu, hs1⟩ | ⟨hu, hs1⟩
    · rw [hu, hs1] at hg
      repeat' first
        | refine WpA.condF (congrArg AV.bool hm1) ?_
        | refine WpA.condT (congrArg AV.bool hs1) ?_
        | (exact absurd ‹_ = false› (by rw [hs1]; decide))
        | refine WpA.seq ?_
        | refine WpA.region ?_
        | refine WpOps.op _ rfl rfl rfl rfl rfl ?_
        | refine WpOps.box _ rfl rfl rfl rfl rfl ?_
        | refine WpOps.skip rfl rfl rfl ?_
        | (refine WpOps.call rfl rfl rfl rfl rfl (by exact hW _) ?_; rintro _ _ ⟨rfl, rfl⟩)
        | (refine WpOps.call rfl rfl rfl rfl rfl (by exact hHo _) ?_; rintro _ _ ⟨rfl, rfl⟩)
        | (refine WpOps.call rfl rfl rfl rfl rfl (by exact hC _) ?_; rintro _ _ ⟨rfl, rfl⟩)
        | refine WpOps.gsplit _ rfl rfl rfl (fun h => ?_) (fun h => ?_)
        | refine WpOps.nil ?_
        | refine WpA.ret ?_
        | refine WpA.skip ?_
        | refine WpA.condT rfl ?_
        | refine WpA.cond _ rfl (fun h => ?_) (fun h => ?_)
      all_goals
        refine retK.ok rfl rfl (congrArg (AV.int .i64) ?_) .int
        clear hW hHo hC hm hm1 hp h10 hu hs1
        simp_all
        try (intros; omega)
    · rw [hu, hs1] at hg
      repeat' first
        | refine WpA.condF (congrArg AV.bool hm1) ?_
        | refine WpA.condF (congrArg AV.bool hs1) ?_
        | (exact absurd ‹_ = true› (by rw [hs1]; decide))
        | refine WpA.seq ?_
        | refine WpA.region ?_
        | refine WpOps.op _ rfl rfl rfl rfl rfl ?_
        | refine WpOps.box _ rfl rfl rfl rfl rfl ?_
        | refine WpOps.skip rfl rfl rfl ?_
        | (refine WpOps.call rfl rfl rfl rfl rfl (by exact hW _) ?_; rintro _ _ ⟨rfl, rfl⟩)
        | (refine WpOps.call rfl rfl rfl rfl rfl (by exact hHo _) ?_; rintro _ _ ⟨rfl, rfl⟩)
        | (refine WpOps.call rfl rfl rfl rfl rfl (by exact hC _) ?_; rintro _ _ ⟨rfl, rfl⟩)
        | refine WpOps.gsplit _ rfl rfl rfl (fun h => ?_) (fun h => ?_)
        | refine WpOps.nil ?_
        | refine WpA.ret ?_
        | refine WpA.skip ?_
        | refine WpA.condT rfl ?_
        | refine WpA.cond _ rfl (fun h => ?_) (fun h => ?_)
      all_goals
        refine retK.ok rfl rfl (congrArg (AV.int .i64) ?_) .int
        clear hW hHo hC hm hm1 hp h10 hu hs1
        simp_all
        try (intros; omega)
end Go.Gp.Tryz
