/- The manifest's checks: the law's own function. -/
import Derived.Test.YtmacdhglhafldaaW9
namespace Go.Gp.Try
open Go.Proofs
set_option linter.unusedVariables false
set_option linter.unusedSimpArgs false
set_option maxHeartbeats 4000000

theorem eqAL_refl : ∀ (l : List AV), (∀ a ∈ l, ∃ v, a = .int .u8 v) → eqAL l l = true
  | [], _ => rfl
  | a :: l, h => by
    obtain ⟨v, rfl⟩ := h _ List.mem_cons_self
    simp only [eqAL, beq1, BEq.rfl, Bool.true_and]
    exact eqAL_refl l fun b hb => h b (List.mem_cons_of_mem _ hb)

theorem feq_refl (f : File) : feq f f = true := by
  unfold feq heq
  rw [eqAL_refl _ (hash_int f)]
  simp
theorem eqFs_refl : ∀ fs, eqFs fs fs = true
  | [] => rfl
  | f :: fs => by rw [eqFs, feq_refl, eqFs_refl fs]; rfl
theorem same_refl (m : Man) : same m m = true := by
  unfold same weq
  rw [eqFs_refl]
  simp

theorem findHash_int (m : Man) (y : List UInt8) : ∀ a ∈ findHash m y, ∃ v, a = .int .u8 v := by
  intro a ha
  obtain ⟨i, _, rfl⟩ := List.mem_map.1 ha
  exact ⟨_, rfl⟩
theorem findHash_len (m : Man) (y : List UInt8) : (findHash m y).length = 32 := rfl

theorem eqFound (m : Man) (y : List UInt8) : EqS E (.inl 31) [.agg (findHash m y)] [.agg (findHash m y)] true := by
  have := EqS.bytes (E := E) (t := 31) (q := .u8) rfl rfl (findHash_len m y) (findHash_len m y) (findHash_int m y) (findHash_int m y)
  rw [eqAL_refl _ (findHash_int m y)] at this
  exact this

theorem checks_A (m m2 : Man) (y : List UInt8) (H : List AObj) (hb : m.fs.length ≤ 1000000000000000) (hb2 : m2.fs.length ≤ 1000000000000000) : CallsA E 3 [m.av .no, m2.av .no, .str y] H (Is H (.bool true)) := by
  refine .enter Try.func3 rfl rfl rfl 71 Try.ntmps3 (Nat.le_of_ble_eq_true rfl) ?_
  repeat' first
    | refine WpA.seq ?_
    | refine WpA.region ?_
    | refine WpOps.op _ rfl rfl rfl rfl rfl ?_
    | refine WpOps.box _ rfl rfl rfl rfl rfl ?_
    | refine WpOps.alloc _ rfl rfl rfl rfl rfl rfl ?_
    | refine WpOps.store rfl rfl rfl rfl rfl rfl rfl rfl rfl rfl ?_
    | refine WpOps.skip rfl rfl rfl ?_
    | refine WpOps.build _ rfl rfl rfl rfl rfl ?_
    | refine WpOps.sh _ rfl rfl rfl rfl rfl ?_
    | (refine WpOps.call rfl rfl rfl rfl rfl (by exact great_A m .no _ hb) ?_; rintro _ _ ⟨rfl, rfl⟩)
    | (refine WpOps.call rfl rfl rfl rfl rfl (by exact great_A m2 .no _ hb2) ?_; rintro _ _ ⟨rfl, rfl⟩)
    | refine WpOps.gsplit _ rfl rfl rfl (fun h => ?_) (fun h => ?_)
    | refine WpA.block ?_
    | refine WpA.exit ?_
    | refine WpOps.nil ?_
    | refine WpA.ret ?_
    | refine WpA.skip ?_
    | refine WpA.condT rfl ?_
    | refine WpA.condF rfl ?_
    | refine WpA.cond _ rfl (fun h => ?_) (fun h => ?_)
    | refine WpA.draw (by kernel_rfl) ?_
    | refine LexA.op _ rfl rfl rfl rfl rfl ?_
    | refine LexA.skip rfl rfl rfl ?_
    | refine LexA.build _ rfl rfl rfl rfl rfl ?_
    | refine LexA.sh _ rfl rfl rfl rfl rfl ?_
    | refine LexA.call rfl rfl rfl rfl rfl (by exact great_A m .no _ hb) ?_
    | refine LexA.call rfl rfl rfl rfl rfl (by exact great_A m2 .no _ hb2) ?_
    | refine LexA.gsplit _ rfl rfl rfl (fun h => ?_) (fun h => ?_)
    | refine LexA.nil ?_
  · exact retK.ok rfl rfl rfl .bool
  · exact retK.ok rfl rfl rfl .bool
  · exact retK.ok rfl rfl rfl .bool
  · rename_i h0 _
    have hl : m.fs.length ≤ 1000 := by
      simp [great] at h0
      omega
    clear h h0
    repeat' first
      | refine WpA.seq ?_
      | refine WpA.region ?_
      | refine WpOps.op _ rfl rfl rfl rfl rfl ?_
      | refine WpOps.box _ rfl rfl rfl rfl rfl ?_
      | refine WpOps.alloc _ rfl rfl rfl rfl rfl rfl ?_
      | refine WpOps.store rfl rfl rfl rfl rfl rfl rfl rfl rfl rfl ?_
      | refine WpOps.skip rfl rfl rfl ?_
      | refine WpOps.build _ rfl rfl rfl rfl rfl ?_
      | refine WpOps.sh _ rfl rfl rfl rfl rfl ?_
      | (refine WpOps.call rfl rfl rfl rfl rfl (by exact twin_A m .no _ hl) ?_; rintro _ _ ⟨rfl, rfl⟩)
      | (refine WpOps.call rfl rfl rfl rfl rfl (by exact Find_A m y _ hb) ?_; rintro _ _ ⟨rfl, rfl⟩)
      | (refine WpOps.call rfl rfl rfl rfl rfl (by exact refFind_A m y _ hb) ?_; rintro _ _ ⟨rfl, rfl⟩)
      | (refine WpOps.call rfl rfl rfl rfl rfl (by exact Check_A m _ hb) ?_; rintro _ _ ⟨rfl, rfl⟩)
      | (refine WpOps.call rfl rfl rfl rfl rfl (by exact refCheck_A m _ hb) ?_; rintro _ _ ⟨rfl, rfl⟩)
      | (refine WpOps.call rfl rfl rfl rfl rfl (by exact Same_A m m2 _ hb) ?_; rintro _ _ ⟨rfl, rfl⟩)
      | (refine WpOps.call rfl rfl rfl rfl rfl (by exact refSame_A m m2 _ hb) ?_; rintro _ _ ⟨rfl, rfl⟩)
      | (refine WpOps.call rfl rfl rfl rfl rfl (by exact Same_A m m _ hb) ?_; rintro _ _ ⟨rfl, rfl⟩)
      | (refine WpOps.call rfl rfl rfl rfl rfl (by exact refSame_A m m _ hb) ?_; rintro _ _ ⟨rfl, rfl⟩)
      | refine LexA.eqA rfl rfl rfl rfl rfl rfl key31 (by exact eqFound m y) ?_
      | refine WpOps.gsplit _ rfl rfl rfl (fun h => ?_) (fun h => ?_)
      | refine WpA.block ?_
      | refine WpA.exit ?_
      | refine WpOps.nil ?_
      | refine WpA.ret ?_
      | refine WpA.skip ?_
      | refine WpA.condT rfl ?_
      | refine WpA.condF rfl ?_
      | refine WpA.cond _ rfl (fun h => ?_) (fun h => ?_)
      | refine WpA.draw (by kernel_rfl) ?_
      | refine LexA.op _ rfl rfl rfl rfl rfl ?_
      | refine LexA.skip rfl rfl rfl ?_
      | refine LexA.build _ rfl rfl rfl rfl rfl ?_
      | refine LexA.sh _ rfl rfl rfl rfl rfl ?_
      | refine LexA.call rfl rfl rfl rfl rfl (by exact twin_A m .no _ hl) ?_
      | refine LexA.call rfl rfl rfl rfl rfl (by exact Find_A m y _ hb) ?_
      | refine LexA.call rfl rfl rfl rfl rfl (by exact refFind_A m y _ hb) ?_
      | refine LexA.call rfl rfl rfl rfl rfl (by exact Check_A m _ hb) ?_
      | refine LexA.call rfl rfl rfl rfl rfl (by exact refCheck_A m _ hb) ?_
      | refine LexA.call rfl rfl rfl rfl rfl (by exact Same_A m m2 _ hb) ?_
      | refine LexA.call rfl rfl rfl rfl rfl (by exact refSame_A m m2 _ hb) ?_
      | refine LexA.call rfl rfl rfl rfl rfl (by exact Same_A m m _ hb) ?_
      | refine LexA.call rfl rfl rfl rfl rfl (by exact refSame_A m m _ hb) ?_
      | refine LexA.gsplit _ rfl rfl rfl (fun h => ?_) (fun h => ?_)
      | refine LexA.nil ?_
    · refine retK.ok rfl rfl (congrArg AV.bool ?_) .bool
      show same m m = true
      exact same_refl m
    · have h' : (findCode m y == findCode m y) = false := h
      rw [BEq.rfl] at h'; cases h'
    · have h' : same m m = false := h
      rw [same_refl] at h'; cases h'
    · have h' : (same m m2 == same m m2) = false := h
      rw [BEq.rfl] at h'; cases h'
    · rw [BEq.rfl] at h; cases h
end Go.Gp.Try
