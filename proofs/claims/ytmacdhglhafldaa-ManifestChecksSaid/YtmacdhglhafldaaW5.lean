/- The manifest's checks: the reference's Check. -/
import Derived.Test.YtmacdhglhafldaaW4
namespace Go.Gp.Try
open Go.Proofs
set_option linter.unusedVariables false
set_option linter.unusedSimpArgs false
set_option maxHeartbeats 4000000

theorem lt_not : ∀ (x y : List UInt8), lt y x = !(lt x y || x == y)
  | [], [] => rfl
  | [], _ :: _ => rfl
  | _ :: _, [] => rfl
  | a :: x, b :: y => by
    have ih := lt_not x y
    show (decide (b < a) || (b == a && lt y x)) = !((decide (a < b) || (a == b && lt x y)) || (a :: x == b :: y))
    rw [ih]
    have e : (a :: x == b :: y) = (a == b && x == y) := rfl
    rw [e]
    rcases Nat.lt_trichotomy a.toNat b.toNat with h | h | h
    · have h0 : a < b := UInt8.lt_iff_toNat_lt.2 h
      have h1 : ¬ b < a := fun g => by have := UInt8.lt_iff_toNat_lt.1 g; omega
      have h2 : ¬ b = a := fun e => by subst e; exact h1 h0
      have h3 : ¬ a = b := fun e => h2 e.symm
      simp [h0, h1, h2, h3]
    · have e : a = b := UInt8.toNat_inj.1 h
      subst e
      simp
    · have h0 : b < a := UInt8.lt_iff_toNat_lt.2 h
      have h1 : ¬ a < b := fun g => by have := UInt8.lt_iff_toNat_lt.1 g; omega
      have h2 : ¬ a = b := fun e => by subst e; exact h1 h0
      have h3 : ¬ b = a := fun e => h2 e.symm
      simp [h0, h1, h2, h3]

theorem okUpTo_false {fs : List File} {i : Nat} (h : i < fs.length) (hf : okAt fs i = false) : okUpTo fs fs.length = false := by
  unfold okUpTo
  rw [List.all_eq_false]
  exact ⟨i, by simpa using h, by simpa using hf⟩

theorem refCheck_A (m : Man) (H : List AObj) (hb : m.fs.length ≤ 1000000000000000) : CallsA E 10 [m.av .no] H (Is H (.int .i64 (check m))) := by
  refine .enter Try.func10 rfl rfl rfl 47 Try.ntmps10 (Nat.le_of_ble_eq_true rfl) ?_
  repeat' first
    | refine WpA.seq ?_
    | refine WpA.region ?_
    | refine WpOps.op _ rfl rfl rfl rfl rfl ?_
    | refine WpOps.box _ rfl rfl rfl rfl rfl ?_
    | refine WpOps.alloc _ rfl rfl rfl rfl rfl rfl ?_
    | refine WpOps.store rfl rfl rfl rfl rfl rfl rfl rfl rfl rfl ?_
    | refine WpOps.skip rfl rfl rfl ?_
    | refine WpOps.build _ rfl rfl rfl rfl rfl ?_
    | refine WpOps.sh _ rfl rfl rfl rfl rfl ?_
    | (refine WpOps.call rfl rfl rfl rfl rfl (by exact refWinCheck_A _ _ _) ?_; rintro _ _ ⟨rfl, rfl⟩)
    | refine WpOps.gsplit _ rfl rfl rfl (fun h => ?_) (fun h => ?_)
    | refine WpA.block ?_
    | refine WpA.exit ?_
    | refine WpOps.nil ?_
    | refine WpA.ret ?_
    | refine WpA.skip ?_
    | refine WpA.condT rfl ?_
    | refine WpA.condF rfl ?_
    | refine WpA.cond _ rfl (fun h => ?_) (fun h => ?_)
    | refine WpA.draw (by kernel_rfl) ?_
    | refine LexA.op _ rfl rfl rfl rfl rfl ?_
    | refine LexA.skip rfl rfl rfl ?_
    | refine LexA.build _ rfl rfl rfl rfl rfl ?_
    | refine LexA.sh _ rfl rfl rfl rfl rfl ?_
    | refine LexA.call rfl rfl rfl rfl rfl (by exact refWinCheck_A _ _ _) ?_
    | refine LexA.gsplit _ rfl rfl rfl (fun h => ?_) (fun h => ?_)
    | refine LexA.nil ?_
  · refine retK.ok rfl rfl (congrArg (AV.int .i64) ?_) .int
    simp [rows_length] at h
    simp [check]; omega
  · refine retK.ok rfl rfl (congrArg (AV.int .i64) ?_) .int
    rename_i h0
    simp [rows_length] at h0
    have hw : win m.a m.b = false := by
      rw [← winCode_zero]
      simpa [bne] using h
    rw [check, if_neg (by omega), manOk, hw]
    rfl
  · rename_i h0
    simp [rows_length] at h0
    have hw : win m.a m.b = true := by
      rw [← winCode_zero]
      simpa [bne] using h
    refine WpA.loopS (α := Nat) (fun i => [(1, .ptr H.length 0 0), (3, .int .i64 i)]) (fun _ => H ++ [AObj.cells (m.cells .no)]) (fun i => i ≤ m.fs.length ∧ okUpTo m.fs i = true) (fun i => m.fs.length - i) 0 ⟨Nat.zero_le _, rfl⟩ ⟨rfl, rfl, trivial⟩ rfl ?_
    rintro i ⟨hi, hu⟩
    repeat' first
      | refine WpA.seq ?_
      | refine WpA.region ?_
      | refine WpOps.op _ rfl rfl rfl rfl rfl ?_
      | refine WpOps.box _ rfl rfl rfl rfl rfl ?_
      | refine WpOps.alloc _ rfl rfl rfl rfl rfl rfl ?_
      | refine WpOps.store rfl rfl rfl rfl rfl rfl rfl rfl rfl rfl ?_
      | refine WpOps.skip rfl rfl rfl ?_
      | refine WpOps.build _ rfl rfl rfl rfl rfl ?_
      | refine WpOps.sh _ rfl rfl rfl rfl rfl ?_
      | (refine WpOps.call rfl rfl rfl rfl rfl (by exact Name_A _ _) ?_; rintro _ _ ⟨rfl, rfl⟩)
      | refine WpOps.gsplit _ rfl rfl rfl (fun h => ?_) (fun h => ?_)
      | refine WpA.block ?_
      | refine WpA.exit ?_
      | refine WpOps.nil ?_
      | refine WpA.ret ?_
      | refine WpA.skip ?_
      | refine WpA.condT rfl ?_
      | refine WpA.condF rfl ?_
      | refine WpA.cond _ rfl (fun h => ?_) (fun h => ?_)
      | refine WpA.draw (by kernel_rfl) ?_
      | refine LexA.op _ rfl rfl rfl rfl rfl ?_
      | refine LexA.skip rfl rfl rfl ?_
      | refine LexA.build _ rfl rfl rfl rfl rfl ?_
      | refine LexA.sh _ rfl rfl rfl rfl rfl ?_
      | refine LexA.call rfl rfl rfl rfl rfl (by exact Name_A _ _) ?_
      | refine LexA.gsplit _ rfl rfl rfl (fun h => ?_) (fun h => ?_)
      | refine LexA.nil ?_
    · simp [rows_length] at h
      have hlt : i < m.fs.length := h
      clear h
      have hget : m.fs[i]? = some m.fs[i] := List.getElem?_eq_getElem hlt
      have hi0 := rows_get hlt
      have hwi : IntKind.i64.wrap ((i : Int) + 1) = ((i + 1 : Nat) : Int) := wrap64 (by omega) (by omega)
      rcases i with _ | k
      · have hok : okAt m.fs 0 = name m.fs[0].name := by unfold okAt; rw [hget]; simp
        repeat' first
          | refine WpA.seq ?_
          | refine WpA.region ?_
          | refine WpOps.op _ rfl rfl rfl rfl rfl ?_
          | refine WpOps.box _ rfl rfl rfl rfl rfl ?_
          | refine WpOps.alloc _ rfl rfl rfl rfl rfl rfl ?_
          | refine WpOps.store rfl rfl rfl rfl rfl rfl rfl rfl rfl rfl ?_
          | refine WpOps.skip rfl rfl rfl ?_
          | refine WpOps.build _ rfl rfl rfl rfl rfl ?_
          | refine WpOps.sh _ rfl rfl rfl rfl rfl ?_
          | (refine WpOps.call rfl rfl rfl rfl rfl (by exact refName_A _ _) ?_; rintro _ _ ⟨rfl, rfl⟩)
          | refine LexA.elem (m.fs[0]).row rfl rfl rfl rfl rfl rfl rfl rfl rfl (Int.natCast_nonneg _) (by exact hi0) ?_
          | refine WpOps.gsplit _ rfl rfl rfl (fun h => ?_) (fun h => ?_)
          | refine WpA.block ?_
          | refine WpA.exit ?_
          | refine WpOps.nil ?_
          | refine WpA.ret ?_
          | refine WpA.skip ?_
          | refine WpA.condT rfl ?_
          | refine WpA.condF rfl ?_
          | refine WpA.cond _ rfl (fun h => ?_) (fun h => ?_)
          | refine WpA.draw (by kernel_rfl) ?_
          | refine LexA.op _ rfl rfl rfl rfl rfl ?_
          | refine LexA.skip rfl rfl rfl ?_
          | refine LexA.build _ rfl rfl rfl rfl rfl ?_
          | refine LexA.sh _ rfl rfl rfl rfl rfl ?_
          | refine LexA.call rfl rfl rfl rfl rfl (by exact refName_A _ _) ?_
          | refine LexA.gsplit _ rfl rfl rfl (fun h => ?_) (fun h => ?_)
          | refine LexA.nil ?_
        · have hf : okAt m.fs 0 = false := by rw [hok]; simpa using h
          refine retK.ok rfl rfl (congrArg (AV.int .i64) ?_) .int
          rw [check, if_neg (by omega), manOk, okUpTo_false hlt hf]; simp
        · have hf : okAt m.fs 0 = true := by rw [hok]; simpa using h
          refine ⟨0 + 1, ⟨hlt, ?_⟩, by omega, ⟨rfl, congrArg (AV.int .i64) hwi, trivial⟩, rfl⟩
          rw [okUpTo_succ, hu, hf]; rfl
      · have hget' : m.fs[k]? = some m.fs[k] := List.getElem?_eq_getElem (by omega)
        have hok : okAt m.fs (k + 1) = (name m.fs[k + 1].name && lt m.fs[k].name m.fs[k + 1].name) := by
          unfold okAt; rw [hget]; simp only [hget']
        rw [lt_not m.fs[k + 1].name m.fs[k].name] at hok
        simp only [lt] at hok
        have hwk : IntKind.i64.wrap (((k + 1 : Nat) : Int) - 1) = (k : Int) := by rw [wrap64 (by omega) (by omega)]; omega
        have hk0 : 0 ≤ IntKind.i64.wrap (((k + 1 : Nat) : Int) - 1) := by rw [hwk]; omega
        have hk1 : (rows m.fs)[(IntKind.i64.wrap (((k + 1 : Nat) : Int) - 1)).toNat]? = some (m.fs[k]).row := by rw [hwk]; exact rows_get _
        repeat' first
          | refine WpA.seq ?_
          | refine WpA.region ?_
          | refine WpOps.op _ rfl rfl rfl rfl rfl ?_
          | refine WpOps.box _ rfl rfl rfl rfl rfl ?_
          | refine WpOps.alloc _ rfl rfl rfl rfl rfl rfl ?_
          | refine WpOps.store rfl rfl rfl rfl rfl rfl rfl rfl rfl rfl ?_
          | refine WpOps.skip rfl rfl rfl ?_
          | refine WpOps.build _ rfl rfl rfl rfl rfl ?_
          | refine WpOps.sh _ rfl rfl rfl rfl rfl ?_
          | (refine WpOps.call rfl rfl rfl rfl rfl (by exact refName_A _ _) ?_; rintro _ _ ⟨rfl, rfl⟩)
          | refine LexA.elem (m.fs[k + 1]).row rfl rfl rfl rfl rfl rfl rfl rfl rfl (Int.natCast_nonneg _) (by exact hi0) ?_
          | refine LexA.elem (m.fs[k]).row rfl rfl rfl rfl rfl rfl rfl rfl rfl (by exact hk0) (by exact hk1) ?_
          | refine WpOps.gsplit _ rfl rfl rfl (fun h => ?_) (fun h => ?_)
          | refine WpA.block ?_
          | refine WpA.exit ?_
          | refine WpOps.nil ?_
          | refine WpA.ret ?_
          | refine WpA.skip ?_
          | refine WpA.condT rfl ?_
          | refine WpA.condF rfl ?_
          | refine WpA.cond _ rfl (fun h => ?_) (fun h => ?_)
          | refine WpA.draw (by kernel_rfl) ?_
          | refine LexA.op _ rfl rfl rfl rfl rfl ?_
          | refine LexA.skip rfl rfl rfl ?_
          | refine LexA.build _ rfl rfl rfl rfl rfl ?_
          | refine LexA.sh _ rfl rfl rfl rfl rfl ?_
          | refine LexA.call rfl rfl rfl rfl rfl (by exact refName_A _ _) ?_
          | refine LexA.gsplit _ rfl rfl rfl (fun h => ?_) (fun h => ?_)
          | refine LexA.nil ?_
        all_goals first
          | (have h' : (!name m.fs[k + 1].name) = true := h
             have hf : okAt m.fs (k + 1) = false := by
               rw [hok]
               rw [Bool.not_eq_true'] at h'
               rw [h']
               rfl
             refine retK.ok rfl rfl (congrArg (AV.int .i64) ?_) .int
             rw [check, if_neg (by omega), manOk, okUpTo_false hlt hf]; simp)
          | (have h' : (Op.bytesLess m.fs[k + 1].name m.fs[k].name || m.fs[k + 1].name == m.fs[k].name) = true := h
             have hf : okAt m.fs (k + 1) = false := by
               rw [hok, h']
               simp
             refine retK.ok rfl rfl (congrArg (AV.int .i64) ?_) .int
             rw [check, if_neg (by omega), manOk, okUpTo_false hlt hf]; simp)
          | (have h' : (Op.bytesLess m.fs[k + 1].name m.fs[k].name || m.fs[k + 1].name == m.fs[k].name) = false := h
             have hn : (!name m.fs[k + 1].name) = false := by assumption
             have hf : okAt m.fs (k + 1) = true := by
               rw [hok, h']
               rw [Bool.not_eq_false'] at hn
               rw [hn]
               rfl
             refine ⟨k + 1 + 1, ⟨hlt, ?_⟩, by omega, ⟨rfl, congrArg (AV.int .i64) hwi, trivial⟩, rfl⟩
             rw [okUpTo_succ, hu, hf]; rfl)
          | (exfalso
             have hz : decide (((k + 1 : Nat) : Int) > 0) = true := by rw [decide_eq_true_eq]; omega
             have hq : decide (((k + 1 : Nat) : Int) > 0) = false := by assumption
             rw [hz] at hq
             cases hq)
    · simp [rows_length] at h
      have : i = m.fs.length := by omega
      subst this
      refine retK.ok rfl rfl (congrArg (AV.int .i64) ?_) .int
      rw [check, if_neg (by omega), manOk, hw, hu]
      rfl
end Go.Gp.Try
