/- Part of a proof: GpW10, GpC1 -/
import Derived.Test.YtmacdhglhafldaaK26
import Derived.Test.YtmacdhglhafldaaK30

/- The manifest's checks: the law's own function. -/
namespace Go.Gp.Try
open Go.Proofs
set_option linter.unusedVariables false
set_option linter.unusedSimpArgs false
set_option maxHeartbeats 4000000

theorem eqAL_refl : ∀ (l : List AV), (∀ a ∈ l, ∃ v, a = .int .u8 v) → eqAL l l = true
  | [], _ => rfl
  | a :: l, h => by
    obtain ⟨v, rfl⟩ := h _ List.mem_cons_self
    simp only [eqAL, beq1, BEq.rfl, Bool.true_and]
    exact eqAL_refl l fun b hb => h b (List.mem_cons_of_mem _ hb)

theorem feq_refl (f : File) : feq f f = true := by
  unfold feq heq
  rw [eqAL_refl _ (hash_int f)]
  simp
theorem eqFs_refl : ∀ fs, eqFs fs fs = true
  | [] => rfl
  | f :: fs => by rw [eqFs, feq_refl, eqFs_refl fs]; rfl
theorem same_refl (m : Man) : same m m = true := by
  unfold same weq
  rw [eqFs_refl]
  simp

theorem findHash_int (m : Man) (y : List UInt8) : ∀ a ∈ findHash m y, ∃ v, a = .int .u8 v := by
  intro a ha
  obtain ⟨i, _, rfl⟩ := List.mem_map.1 ha
  exact ⟨_, rfl⟩
theorem findHash_len (m : Man) (y : List UInt8) : (findHash m y).length = 32 := rfl

theorem eqFound (m : Man) (y : List UInt8) : EqS E (.inl 31) [.agg (findHash m y)] [.agg (findHash m y)] true := by
  have := EqS.bytes (E := E) (t := 31) (q := .u8) rfl rfl (findHash_len m y) (findHash_len m y) (findHash_int m y) (findHash_int m y)
  rw [eqAL_refl _ (findHash_int m y)] at this
  exact this

theorem checks_A (m m2 : Man) (y : List UInt8) (H : List AObj) (hb : m.fs.length ≤ 1000000000000000) (hb2 : m2.fs.length ≤ 1000000000000000) : CallsA E 3 [m.av .no, m2.av .no, .str y] H (Is H (.bool true)) := by
  refine .enter Try.func3 rfl rfl rfl 71 Try.ntmps3 (Nat.le_of_ble_eq_true rfl) ?_
  repeat' first
    | refine WpA.seq ?_
    | refine WpA.region ?_
    | refine WpOps.op _ rfl rfl rfl rfl rfl ?_
    | refine WpOps.box _ rfl rfl rfl rfl rfl ?_
    | refine WpOps.alloc _ rfl rfl rfl rfl rfl rfl ?_
    | refine WpOps.store rfl rfl rfl rfl rfl rfl rfl rfl rfl rfl ?_
    | refine WpOps.skip rfl rfl rfl ?_
    | refine WpOps.build _ rfl rfl rfl rfl rfl ?_
    | refine WpOps.sh _ rfl rfl rfl rfl rfl ?_
    | (refine WpOps.call rfl rfl rfl rfl rfl (by exact great_A m .no _ hb) ?_; rintro _ _ ⟨rfl, rfl⟩)
    | (refine WpOps.call rfl rfl rfl rfl rfl (by exact great_A m2 .no _ hb2) ?_; rintro _ _ ⟨rfl, rfl⟩)
    | refine WpOps.gsplit _ rfl rfl rfl (fun h => ?_) (fun h => ?_)
    | refine WpA.block ?_
    | refine WpA.exit ?_
    | refine WpOps.nil ?_
    | refine WpA.ret ?_
    | refine WpA.skip ?_
    | refine WpA.condT rfl ?_
    | refine WpA.condF rfl ?_
    | refine WpA.cond _ rfl (fun h => ?_) (fun h => ?_)
    | refine WpA.draw (by kernel_rfl) ?_
    | refine LexA.op _ rfl rfl rfl rfl rfl ?_
    | refine LexA.skip rfl rfl rfl ?_
    | refine LexA.build _ rfl rfl rfl rfl rfl ?_
    | refine LexA.sh _ rfl rfl rfl rfl rfl ?_
    | refine LexA.call rfl rfl rfl rfl rfl (by exact great_A m .no _ hb) ?_
    | refine LexA.call rfl rfl rfl rfl rfl (by exact great_A m2 .no _ hb2) ?_
    | refine LexA.gsplit _ rfl rfl rfl (fun h => ?_) (fun h => ?_)
    | refine LexA.nil ?_
  · exact retK.ok rfl rfl rfl .bool
  · exact retK.ok rfl rfl rfl .bool
  · exact retK.ok rfl rfl rfl .bool
  · rename_i h0 _
    have hl : m.fs.length ≤ 1000 := by
      simp [great] at h0
      omega
    clear h h0
    repeat' first
      | refine WpA.seq ?_
      | refine WpA.region ?_
      | refine WpOps.op _ rfl rfl rfl rfl rfl ?_
      | refine WpOps.box _ rfl rfl rfl rfl rfl ?_
      | refine WpOps.alloc _ rfl rfl rfl rfl rfl rfl ?_
      | refine WpOps.store rfl rfl rfl rfl rfl rfl rfl rfl rfl rfl ?_
      | refine WpOps.skip rfl rfl rfl ?_
      | refine WpOps.build _ rfl rfl rfl rfl rfl ?_
      | refine WpOps.sh _ rfl rfl rfl rfl rfl ?_
      | (refine WpOps.call rfl rfl rfl rfl rfl (by exact twin_A m .no _ hl) ?_; rintro _ _ ⟨rfl, rfl⟩)
      | (refine WpOps.call rfl rfl rfl rfl rfl (by exact Find_A m y _ hb) ?_; rintro _ _ ⟨rfl, rfl⟩)
      | (refine WpOps.call rfl rfl rfl rfl rfl (by exact refFind_A m y _ hb) ?_; rintro _ _ ⟨rfl, rfl⟩)
      | (refine WpOps.call rfl rfl rfl rfl rfl (by exact Check_A m _ hb) ?_; rintro _ _ ⟨rfl, rfl⟩)
      | (refine WpOps.call rfl rfl rfl rfl rfl (by exact refCheck_A m _ hb) ?_; rintro _ _ ⟨rfl, rfl⟩)
      | (refine WpOps.call rfl rfl rfl rfl rfl (by exact Same_A m m2 _ hb) ?_; rintro _ _ ⟨rfl, rfl⟩)
      | (refine WpOps.call rfl rfl rfl rfl rfl (by exact refSame_A m m2 _ hb) ?_; rintro _ _ ⟨rfl, rfl⟩)
      | (refine WpOps.call rfl rfl rfl rfl rfl (by exact Same_A m m _ hb) ?_; rintro _ _ ⟨rfl, rfl⟩)
      | (refine WpOps.call rfl rfl rfl rfl rfl (by exact refSame_A m m _ hb) ?_; rintro _ _ ⟨rfl, rfl⟩)
      | refine LexA.eqA rfl rfl rfl rfl rfl rfl key31 (by exact eqFound m y) ?_
      | refine WpOps.gsplit _ rfl rfl rfl (fun h => ?_) (fun h => ?_)
      | refine WpA.block ?_
      | refine WpA.exit ?_
      | refine WpOps.nil ?_
      | refine WpA.ret ?_
      | refine WpA.skip ?_
      | refine WpA.condT rfl ?_
      | refine WpA.condF rfl ?_
      | refine WpA.cond _ rfl (fun h => ?_) (fun h => ?_)
      | refine WpA.draw (by kernel_rfl) ?_
      | refine LexA.op _ rfl rfl rfl rfl rfl ?_
      | refine LexA.skip rfl rfl rfl ?_
      | refine LexA.build _ rfl rfl rfl rfl rfl ?_
      | refine LexA.sh _ rfl rfl rfl rfl rfl ?_
      | refine LexA.call rfl rfl rfl rfl rfl (by exact twin_A m .no _ hl) ?_
      | refine LexA.call rfl rfl rfl rfl rfl (by exact Find_A m y _ hb) ?_
      | refine LexA.call rfl rfl rfl rfl rfl (by exact refFind_A m y _ hb) ?_
      | refine LexA.call rfl rfl rfl rfl rfl (by exact Check_A m _ hb) ?_
      | refine LexA.call rfl rfl rfl rfl rfl (by exact refCheck_A m _ hb) ?_
      | refine LexA.call rfl rfl rfl rfl rfl (by exact Same_A m m2 _ hb) ?_
      | refine LexA.call rfl rfl rfl rfl rfl (by exact refSame_A m m2 _ hb) ?_
      | refine LexA.call rfl rfl rfl rfl rfl (by exact Same_A m m _ hb) ?_
      | refine LexA.call rfl rfl rfl rfl rfl (by exact refSame_A m m _ hb) ?_
      | refine LexA.gsplit _ rfl rfl rfl (fun h => ?_) (fun h => ?_)
      | refine LexA.nil ?_
    · refine retK.ok rfl rfl (congrArg AV.bool ?_) .bool
      show same m m = true
      exact same_refl m
    · have h' : (findCode m y == findCode m y) = false := h
      rw [BEq.rfl] at h'; cases h'
    · have h' : same m m = false := h
      rw [same_refl] at h'; cases h'
    · have h' : (same m m2 == same m m2) = false := h
      rw [BEq.rfl] at h'; cases h'
    · rw [BEq.rfl] at h; cases h
end Go.Gp.Try

/- The law ManifestCodes: its walk. -/
namespace Go.Gp.Try
open Go.Proofs
set_option linter.unusedVariables false
set_option linter.unusedSimpArgs false
set_option maxHeartbeats 4000000
set_option maxRecDepth 100000

theorem enc_both {m : Man} (hv0 : 0 ≤ m.v) (hv1 : m.v < 18446744073709551616) : manEnc m = ((if check m ≠ 0 then [] else (manO m).enc), check m) := by
  unfold manEnc
  by_cases hc : check m = 0
  · have hn : ¬ check m ≠ 0 := by simpa using hc
    rw [if_neg hn, if_neg hn, if_pos (manO_check hc (by omega)), hc]
  · rw [if_pos hc, if_pos hc]

theorem codes_A (m : Man) (b : List UInt8) (H : List AObj) (hb : m.fs.length ≤ 1000000000000000) (hbl : b.length ≤ 140737488355328) (hv0 : 0 ≤ m.v) (hv1 : m.v < 18446744073709551616) :
    CallsA E 4 [m.av .no, .sl .no 1 (b.map byteRow)] H (Is H (.bool true)) := by
  have hlen : (b.map byteRow).length = b.length := List.length_map _
  have hG := fun H => great_A m .no H hb
  refine .enter Try.func4 rfl rfl rfl 67 Try.ntmps4 (Nat.le_of_ble_eq_true rfl) ?_
  cases hg : great m with
  | true =>
    rw [hg] at hG
    repeat' first
      | refine WpA.seq ?_
      | refine WpA.region ?_
      | refine WpOps.op _ rfl rfl rfl rfl rfl ?_
      | refine WpOps.box _ rfl rfl rfl rfl rfl ?_
      | refine WpOps.alloc _ rfl rfl rfl rfl rfl rfl ?_
      | refine WpOps.store rfl rfl rfl rfl rfl rfl rfl rfl rfl rfl ?_
      | refine WpOps.skip rfl rfl rfl ?_
      | refine WpOps.build _ rfl rfl rfl rfl rfl ?_
      | refine WpOps.sh _ rfl rfl rfl rfl rfl ?_
      | (refine WpOps.call rfl rfl rfl rfl rfl (by exact hG _) ?_; rintro _ _ ⟨rfl, rfl⟩)
      | refine WpOps.gsplit _ rfl rfl rfl (fun h => ?_) (fun h => ?_)
      | refine WpA.block ?_
      | refine WpA.exit ?_
      | refine WpOps.nil ?_
      | refine WpA.ret ?_
      | refine WpA.skip ?_
      | refine WpA.condT rfl ?_
      | refine WpA.condF rfl ?_
      | refine WpA.cond _ rfl (fun h => ?_) (fun h => ?_)
      | refine WpA.draw (by kernel_rfl) ?_
      | refine LexA.op _ rfl rfl rfl rfl rfl ?_
      | refine LexA.skip rfl rfl rfl ?_
      | refine LexA.build _ rfl rfl rfl rfl rfl ?_
      | refine LexA.sh _ rfl rfl rfl rfl rfl ?_
      | refine LexA.call rfl rfl rfl rfl rfl (by exact hG _) ?_
      | refine LexA.gsplit _ rfl rfl rfl (fun h => ?_) (fun h => ?_)
      | refine LexA.nil ?_
    exact retK.ok rfl rfl rfl .bool
  | false =>
    rw [hg] at hG
    obtain ⟨b1, h1⟩ : ∃ b1, decide ((((b.map byteRow).length : Nat) : Int) > 20000) = b1 := ⟨_, rfl⟩
    repeat' first
      | refine WpA.seq ?_
      | refine WpA.region ?_
      | refine WpOps.op _ rfl rfl rfl rfl rfl ?_
      | refine WpOps.box _ rfl rfl rfl rfl rfl ?_
      | refine WpOps.alloc _ rfl rfl rfl rfl rfl rfl ?_
      | refine WpOps.store rfl rfl rfl rfl rfl rfl rfl rfl rfl rfl ?_
      | refine WpOps.skip rfl rfl rfl ?_
      | refine WpOps.build _ rfl rfl rfl rfl rfl ?_
      | refine WpOps.sh _ rfl rfl rfl rfl rfl ?_
      | (refine WpOps.call rfl rfl rfl rfl rfl (by exact hG _) ?_; rintro _ _ ⟨rfl, rfl⟩)
      | refine WpOps.gsplit _ rfl rfl rfl (fun h => ?_) (fun h => ?_)
      | refine WpA.block ?_
      | refine WpA.exit ?_
      | refine WpOps.nil ?_
      | refine WpA.ret ?_
      | refine WpA.skip ?_
      | refine WpA.draw (by kernel_rfl) ?_
      | refine LexA.op _ rfl rfl rfl rfl rfl ?_
      | refine LexA.skip rfl rfl rfl ?_
      | refine LexA.build _ rfl rfl rfl rfl rfl ?_
      | refine LexA.sh _ rfl rfl rfl rfl rfl ?_
      | refine LexA.call rfl rfl rfl rfl rfl (by exact hG _) ?_
      | refine LexA.gsplit _ rfl rfl rfl (fun h => ?_) (fun h => ?_)
      | refine LexA.nil ?_
    refine WpA.cond b1 (congrArg AV.bool h1) (fun h => ?_) (fun h => ?_)
    · subst h
      repeat' first
        | refine WpA.seq ?_
        | refine WpA.region ?_
        | refine WpOps.op _ rfl rfl rfl rfl rfl ?_
        | refine WpOps.box _ rfl rfl rfl rfl rfl ?_
        | refine WpOps.alloc _ rfl rfl rfl rfl rfl rfl ?_
        | refine WpOps.store rfl rfl rfl rfl rfl rfl rfl rfl rfl rfl ?_
        | refine WpOps.skip rfl rfl rfl ?_
        | refine WpOps.build _ rfl rfl rfl rfl rfl ?_
        | refine WpOps.sh _ rfl rfl rfl rfl rfl ?_
        | refine WpOps.gsplit _ rfl rfl rfl (fun h => ?_) (fun h => ?_)
        | refine WpA.block ?_
        | refine WpA.exit ?_
        | refine WpOps.nil ?_
        | refine WpA.ret ?_
        | refine WpA.skip ?_
        | refine WpA.draw (by kernel_rfl) ?_
        | refine LexA.op _ rfl rfl rfl rfl rfl ?_
        | refine LexA.skip rfl rfl rfl ?_
        | refine LexA.build _ rfl rfl rfl rfl rfl ?_
        | refine LexA.sh _ rfl rfl rfl rfl rfl ?_
        | refine LexA.gsplit _ rfl rfl rfl (fun h => ?_) (fun h => ?_)
        | refine LexA.nil ?_
      exact retK.ok rfl rfl rfl .bool
    subst h
    have h1 := of_decide_eq_false h1
    have hbs : b.length ≤ 20000 := by omega
    have hfit : (0 + (b.map byteRow).length) * 1 ≤ 140737488355328 := by rw [hlen]; omega
    have hE := fun H => manEncode_A m H hb hv0 hv1
    rw [enc_both hv0 hv1] at hE
    dsimp only at hE
    have hR := fun H => rEncode_A m H hb hv0 hv1
    have hsm : (if check m ≠ 0 then [] else (manO m).enc).length ≤ 60000 := by
      by_cases hc : check m = 0
      · rw [if_neg (by simpa using hc), enc_length]; exact manO_small hc (by omega)
      · rw [if_pos hc]; simp
    obtain ⟨ee, hee⟩ : ∃ ee, ee = if check m ≠ 0 then [] else (manO m).enc := ⟨_, rfl⟩
    rw [← hee] at hE hR hsm
    have hS1 := fun H => sameBytes_A ee ee .no .no H (by omega)
    have hS2 := fun H => sameBytes_A b b .no .no H (by omega)
    have hbe : ∀ l : List UInt8, (l == l) = true := fun l => by simp
    rw [hbe] at hS1 hS2
    have hD := fun H => manDecode_A b H (by omega)
    have hD2 := fun H => refManDecode_A b H (by omega)
    have hrd : refDecR b = decR b := by unfold refDecR decR; rw [dec_same]; cases refDecM b <;> rfl
    rw [hrd] at hD2
    obtain ⟨m', c', hm', hl'⟩ : ∃ (m' : Man) (c' : Int), decR b = .tup [m'.av .no, .int .i64 c'] ∧ m'.fs.length ≤ 1000000000 := by
      unfold decR
      cases hq : decMan b with
      | none => exact ⟨zeroMan, 12, rfl, by simp [zeroMan]⟩
      | some m' =>
        refine ⟨m', 0, rfl, ?_⟩
        unfold decMan at hq
        split at hq
        · rename_i hc
          injection hq with hq
          subst hq
          have h4 := hc.2.2.2
          rw [orI_zero] at h4
          have := (check_good h4.2).1
          omega
        · cases hq
    rw [hm'] at hD hD2
    have hSm := fun H => refSame_A m' m' H (by omega)
    rw [same_refl] at hSm
    repeat' first
      | refine WpA.seq ?_
      | refine WpA.region ?_
      | refine WpOps.op _ rfl rfl rfl rfl rfl ?_
      | refine WpOps.box _ rfl rfl rfl rfl rfl ?_
      | refine WpOps.alloc _ rfl rfl rfl rfl rfl rfl ?_
      | refine WpOps.store rfl rfl rfl rfl rfl rfl rfl rfl rfl rfl ?_
      | refine WpOps.skip rfl rfl rfl ?_
      | refine WpOps.build _ rfl rfl rfl rfl rfl ?_
      | refine WpOps.sh _ rfl rfl rfl rfl rfl ?_
      | (refine WpOps.call rfl rfl rfl rfl rfl (by exact hE _) ?_; rintro _ _ ⟨rfl, rfl⟩)
      | (refine WpOps.call rfl rfl rfl rfl rfl (by exact hR _) ?_; rintro _ _ ⟨rfl, rfl⟩)
      | (refine WpOps.call rfl rfl rfl rfl rfl (by exact hD _) ?_; rintro _ _ ⟨rfl, rfl⟩)
      | (refine WpOps.call rfl rfl rfl rfl rfl (by exact hD2 _) ?_; rintro _ _ ⟨rfl, rfl⟩)
      | (refine WpOps.call rfl rfl rfl rfl rfl (by exact hS1 _) ?_; rintro _ _ ⟨rfl, rfl⟩)
      | (refine WpOps.call rfl rfl rfl rfl rfl (by exact hS2 _) ?_; rintro _ _ ⟨rfl, rfl⟩)
      | (refine WpOps.call rfl rfl rfl rfl rfl (by exact hSm _) ?_; rintro _ _ ⟨rfl, rfl⟩)
      | (refine WpOps.buildSlice [] rfl rfl rfl rfl rfl rfl rfl rfl rfl rfl rfl ?_)
      | (refine WpOps.appF rfl rfl rfl rfl rfl rfl rfl (fun k h => by cases h) rfl rfl rfl (by exact hfit) ?_)
      | refine WpOps.gsplit _ rfl rfl rfl (fun h => ?_) (fun h => ?_)
      | refine WpA.block ?_
      | refine WpA.exit ?_
      | refine WpOps.nil ?_
      | refine WpA.ret ?_
      | refine WpA.skip ?_
      | refine WpA.condT rfl ?_
      | refine WpA.condF rfl ?_
      | refine WpA.cond _ rfl (fun h => ?_) (fun h => ?_)
      | refine WpA.draw (by kernel_rfl) ?_
      | refine LexA.op _ rfl rfl rfl rfl rfl ?_
      | refine LexA.skip rfl rfl rfl ?_
      | refine LexA.build _ rfl rfl rfl rfl rfl ?_
      | refine LexA.sh _ rfl rfl rfl rfl rfl ?_
      | refine LexA.call rfl rfl rfl rfl rfl (by exact hE _) ?_
      | refine LexA.call rfl rfl rfl rfl rfl (by exact hR _) ?_
      | refine LexA.call rfl rfl rfl rfl rfl (by exact hD _) ?_
      | refine LexA.call rfl rfl rfl rfl rfl (by exact hD2 _) ?_
      | refine LexA.call rfl rfl rfl rfl rfl (by exact hS1 _) ?_
      | refine LexA.call rfl rfl rfl rfl rfl (by exact hS2 _) ?_
      | refine LexA.call rfl rfl rfl rfl rfl (by exact hSm _) ?_
      | refine LexA.gsplit _ rfl rfl rfl (fun h => ?_) (fun h => ?_)
      | refine LexA.nil ?_
    · exact retK.ok rfl rfl rfl .bool
    · have h' : (c' == c') = false := h
      rw [BEq.rfl] at h'; cases h'
    · have h' : (check m == check m) = false := h
      rw [BEq.rfl] at h'; cases h'
end Go.Gp.Try
