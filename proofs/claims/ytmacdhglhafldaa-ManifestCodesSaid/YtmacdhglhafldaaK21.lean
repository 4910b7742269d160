/- Part of a proof: GpR3, GpR4, GpR5 -/
import Derived.Test.YtmacdhglhafldaaK12
import Derived.Test.YtmacdhglhafldaaK20

/- The reference's octets: shapes; Check. -/
namespace Go.Gp.Try
open Go.Proofs
set_option linter.unusedVariables false
set_option linter.unusedSimpArgs false
set_option maxHeartbeats 4000000
set_option maxRecDepth 100000

theorem rShaped_A : ∀ (o : Oct) (H : List AObj), o.size ≤ 1125899906842624 → CallsA E 76 [.agg o.cells] H (Is H (.bool o.shp))
  | .mk tg bs is, H, hs => by
    rw [size_mk] at hs
    have hbs : (bs.map byteRow).length = bs.length := List.length_map _
    have hli : is.length ≤ Oct.sizeL is := length_le_sizeL is
    have hcl := cellsL_length is
    have ih : ∀ (i : Nat) (h : i < is.length) (H : List AObj), CallsA E 76 [.agg (is[i]).cells] H (Is H (.bool (is[i]).shp)) := fun i h H => rShaped_A is[i] H (by have := size_get h; omega)
    have hgd : (Oct.mk tg bs is).good = true ↔ (0 < tg.toNat ∧ (128 ≤ tg.toNat ∨ is.length = 0) ∧ (tg.toNat < 128 ∨ bs.length = 0)) := by
      show ((decide (0 < tg.toNat) && (decide (128 ≤ tg.toNat) || is.length == 0)) && (decide (tg.toNat < 128) || bs.length == 0)) = true ↔ _
      simp only [Bool.and_eq_true, Bool.or_eq_true, decide_eq_true_eq, beq_iff_eq, and_assoc]
    have htg : (Oct.mk tg bs is).tag = tg := rfl
    have hit : (Oct.mk tg bs is).items = is := rfl
    have hbb : (Oct.mk tg bs is).bs = bs := rfl
    refine .enter Try.func76 rfl rfl rfl 43 Try.ntmps76 (Nat.le_of_ble_eq_true rfl) ?_
    have hbad : ¬ (0 < tg.toNat ∧ (128 ≤ tg.toNat ∨ is.length = 0) ∧ (tg.toNat < 128 ∨ bs.length = 0)) → (Oct.mk tg bs is).shp = false := fun h => by
      rw [← hgd, Bool.not_eq_true] at h
      rw [shp_mk, h]; rfl
    have hgood : (0 < tg.toNat ∧ (128 ≤ tg.toNat ∨ is.length = 0) ∧ (tg.toNat < 128 ∨ bs.length = 0)) → (Oct.mk tg bs is).shp = (is.map Oct.shp).all id := fun h => by
      rw [← hgd] at h
      rw [shp_mk, h]; rfl
    repeat' first
      | refine WpA.seq ?_
      | refine WpA.region ?_
      | refine WpOps.op _ rfl rfl rfl rfl rfl ?_
      | refine WpOps.box _ rfl rfl rfl rfl rfl ?_
      | refine WpOps.alloc _ rfl rfl rfl rfl rfl rfl ?_
      | refine WpOps.store rfl rfl rfl rfl rfl rfl rfl rfl rfl rfl ?_
      | refine WpOps.skip rfl rfl rfl ?_
      | refine WpOps.build _ rfl rfl rfl rfl rfl ?_
      | refine WpOps.sh _ rfl rfl rfl rfl rfl ?_
      | refine WpOps.gsplit _ rfl rfl rfl (fun h => ?_) (fun h => ?_)
      | refine WpA.block ?_
      | refine WpA.exit ?_
      | refine WpOps.nil ?_
      | refine WpA.ret ?_
      | refine WpA.skip ?_
      | refine WpA.condT rfl ?_
      | refine WpA.condF rfl ?_
      | refine WpA.cond _ rfl (fun h => ?_) (fun h => ?_)
      | refine WpA.draw (by kernel_rfl) ?_
      | refine LexA.op _ rfl rfl rfl rfl rfl ?_
      | refine LexA.skip rfl rfl rfl ?_
      | refine LexA.build _ rfl rfl rfl rfl rfl ?_
      | refine LexA.sh _ rfl rfl rfl rfl rfl ?_
      | refine LexA.gsplit _ rfl rfl rfl (fun h => ?_) (fun h => ?_)
      | refine LexA.nil ?_
    all_goals simp only [htg, hit, hbb, hbs, hcl, cond_true, cond_false, decide_eq_true_eq, decide_eq_false_iff_not, beq_iff_eq, beq_eq_false_iff_ne, ne_eq] at *
    any_goals
      rw [hbad (by omega)]
      exact retK.ok rfl rfl rfl .bool
    all_goals
      rw [hgood (by omega)]
      refine WpA.loopFor is.length (fun i => [(1, .ptr H.length 0 0), (3, .int .i64 (i : Nat))]) (fun _ => H ++ [.cells (Oct.mk tg bs is).cells]) (fun i => ((is.take i).map Oct.shp).all id = true) rfl ⟨rfl, rfl, trivial⟩ rfl (fun i hi hok => ?_) (fun hok => ?_)
      · have hc : (Oct.cellsL is)[((i : Nat) : Int).toNat]? = some (is[i]).cells := by rw [Int.toNat_natCast]; exact cellsL_get hi
        have hst : ((is.take (i + 1)).map Oct.shp).all id = is[i].shp := by
          rw [List.take_succ_eq_append_getElem hi, List.map_append, List.all_append, hok]; simp
        have hlt : decide (((i : Nat) : Int) < ((Oct.cellsL (Oct.mk tg bs is).items).length : Nat)) = true := by
          show decide (((i : Nat) : Int) < ((Oct.cellsL is).length : Nat)) = true
          rw [cellsL_length]; simp; omega
        repeat' first
          | refine WpA.seq ?_
          | refine WpA.region ?_
          | refine WpOps.op _ rfl rfl rfl rfl rfl ?_
          | refine WpOps.box _ rfl rfl rfl rfl rfl ?_
          | refine WpOps.alloc _ rfl rfl rfl rfl rfl rfl ?_
          | refine WpOps.store rfl rfl rfl rfl rfl rfl rfl rfl rfl rfl ?_
          | refine WpOps.skip rfl rfl rfl ?_
          | refine WpOps.build _ rfl rfl rfl rfl rfl ?_
          | refine WpOps.sh _ rfl rfl rfl rfl rfl ?_
          | (refine WpOps.call rfl rfl rfl rfl rfl (by exact ih i hi _) ?_; rintro _ _ ⟨rfl, rfl⟩)
          | (refine WpOps.elem (is[i]).cells rfl rfl rfl rfl rfl rfl rfl rfl rfl (Int.natCast_nonneg i) hc ?_)
          | refine WpOps.gsplit _ rfl rfl rfl (fun h => ?_) (fun h => ?_)
          | refine WpA.block ?_
          | refine WpA.exit ?_
          | refine WpOps.nil ?_
          | refine WpA.ret ?_
          | refine WpA.skip ?_
          | refine WpA.condT rfl ?_
          | refine WpA.condF rfl ?_
          | refine WpA.draw (by kernel_rfl) ?_
          | refine LexA.op _ rfl rfl rfl rfl rfl ?_
          | refine LexA.skip rfl rfl rfl ?_
          | refine LexA.build _ rfl rfl rfl rfl rfl ?_
          | refine LexA.sh _ rfl rfl rfl rfl rfl ?_
          | refine LexA.call rfl rfl rfl rfl rfl (by exact ih i hi _) ?_
          | refine LexA.gsplit _ rfl rfl rfl (fun h => ?_) (fun h => ?_)
          | refine LexA.nil ?_
        refine WpA.cond true (congrArg AV.bool hlt) (fun h => ?_) (fun h => by cases h)
        repeat' first
          | refine WpA.seq ?_
          | refine WpA.region ?_
          | refine WpOps.op _ rfl rfl rfl rfl rfl ?_
          | refine WpOps.box _ rfl rfl rfl rfl rfl ?_
          | refine WpOps.alloc _ rfl rfl rfl rfl rfl rfl ?_
          | refine WpOps.store rfl rfl rfl rfl rfl rfl rfl rfl rfl rfl ?_
          | refine WpOps.skip rfl rfl rfl ?_
          | refine WpOps.build _ rfl rfl rfl rfl rfl ?_
          | refine WpOps.sh _ rfl rfl rfl rfl rfl ?_
          | (refine WpOps.call rfl rfl rfl rfl rfl (by exact ih i hi _) ?_; rintro _ _ ⟨rfl, rfl⟩)
          | (refine WpOps.elem (is[i]).cells rfl rfl rfl rfl rfl rfl rfl rfl rfl (Int.natCast_nonneg i) hc ?_)
          | refine WpOps.gsplit _ rfl rfl rfl (fun h => ?_) (fun h => ?_)
          | refine WpA.block ?_
          | refine WpA.exit ?_
          | refine WpOps.nil ?_
          | refine WpA.ret ?_
          | refine WpA.skip ?_
          | refine WpA.condT rfl ?_
          | refine WpA.condF rfl ?_
          | refine WpA.cond _ rfl (fun h => ?_) (fun h => ?_)
          | refine WpA.draw (by kernel_rfl) ?_
          | refine LexA.op _ rfl rfl rfl rfl rfl ?_
          | refine LexA.skip rfl rfl rfl ?_
          | refine LexA.build _ rfl rfl rfl rfl rfl ?_
          | refine LexA.sh _ rfl rfl rfl rfl rfl ?_
          | refine LexA.call rfl rfl rfl rfl rfl (by exact ih i hi _) ?_
          | refine LexA.gsplit _ rfl rfl rfl (fun h => ?_) (fun h => ?_)
          | refine LexA.nil ?_
        · refine retK.ok rfl rfl (congrArg AV.bool ?_) .bool
          symm
          rw [Bool.not_eq_true'] at h
          rw [← Bool.not_eq_true, List.all_eq_true]
          intro hall
          have := hall _ (List.mem_map_of_mem (List.getElem_mem hi))
          rw [id, h] at this
          cases this
        · rw [Bool.not_eq_false'] at h
          exact ⟨by rw [hst]; exact h, ⟨rfl, congrArg (AV.int .i64) (wrap64 (by omega) (by omega)), trivial⟩, rfl⟩
      · have hlt : decide (((is.length : Nat) : Int) < ((Oct.cellsL (Oct.mk tg bs is).items).length : Nat)) = false := by
          show decide (((is.length : Nat) : Int) < ((Oct.cellsL is).length : Nat)) = false
          rw [cellsL_length]; simp
        repeat' first
          | refine WpA.seq ?_
          | refine WpA.region ?_
          | refine WpOps.op _ rfl rfl rfl rfl rfl ?_
          | refine WpOps.box _ rfl rfl rfl rfl rfl ?_
          | refine WpOps.alloc _ rfl rfl rfl rfl rfl rfl ?_
          | refine WpOps.store rfl rfl rfl rfl rfl rfl rfl rfl rfl rfl ?_
          | refine WpOps.skip rfl rfl rfl ?_
          | refine WpOps.build _ rfl rfl rfl rfl rfl ?_
          | refine WpOps.sh _ rfl rfl rfl rfl rfl ?_
          | refine WpOps.gsplit _ rfl rfl rfl (fun h => ?_) (fun h => ?_)
          | refine WpA.block ?_
          | refine WpA.exit ?_
          | refine WpOps.nil ?_
          | refine WpA.ret ?_
          | refine WpA.skip ?_
          | refine WpA.condT rfl ?_
          | refine WpA.condF rfl ?_
          | refine WpA.draw (by kernel_rfl) ?_
          | refine LexA.op _ rfl rfl rfl rfl rfl ?_
          | refine LexA.skip rfl rfl rfl ?_
          | refine LexA.build _ rfl rfl rfl rfl rfl ?_
          | refine LexA.sh _ rfl rfl rfl rfl rfl ?_
          | refine LexA.gsplit _ rfl rfl rfl (fun h => ?_) (fun h => ?_)
          | refine LexA.nil ?_
        refine WpA.cond false (congrArg AV.bool hlt) (fun h => by cases h) (fun h => ?_)
        repeat' first
          | refine WpA.seq ?_
          | refine WpA.region ?_
          | refine WpOps.op _ rfl rfl rfl rfl rfl ?_
          | refine WpOps.box _ rfl rfl rfl rfl rfl ?_
          | refine WpOps.alloc _ rfl rfl rfl rfl rfl rfl ?_
          | refine WpOps.store rfl rfl rfl rfl rfl rfl rfl rfl rfl rfl ?_
          | refine WpOps.skip rfl rfl rfl ?_
          | refine WpOps.build _ rfl rfl rfl rfl rfl ?_
          | refine WpOps.sh _ rfl rfl rfl rfl rfl ?_
          | refine WpOps.gsplit _ rfl rfl rfl (fun h => ?_) (fun h => ?_)
          | refine WpA.block ?_
          | refine WpA.exit ?_
          | refine WpOps.nil ?_
          | refine WpA.ret ?_
          | refine WpA.skip ?_
          | refine WpA.condT rfl ?_
          | refine WpA.condF rfl ?_
          | refine WpA.cond _ rfl (fun h => ?_) (fun h => ?_)
          | refine WpA.draw (by kernel_rfl) ?_
          | refine LexA.op _ rfl rfl rfl rfl rfl ?_
          | refine LexA.skip rfl rfl rfl ?_
          | refine LexA.build _ rfl rfl rfl rfl rfl ?_
          | refine LexA.sh _ rfl rfl rfl rfl rfl ?_
          | refine LexA.gsplit _ rfl rfl rfl (fun h => ?_) (fun h => ?_)
          | refine LexA.nil ?_
        refine retK.ok rfl rfl (congrArg AV.bool ?_) .bool
        rw [List.take_length] at hok
        exact hok.symm
termination_by o => SizeOf.sizeOf o
decreasing_by exact sizeOf_get h

def refChk (o : Oct) : Nat := if 4000 < o.cnt ∨ 12 < o.dep then 4 else if o.shp then (if 65536 < o.rsz then 4 else 0) else 8

theorem rCheck_A (o : Oct) (H : List AObj) (hs : o.size ≤ 1125899906842624) : CallsA E 61 [.agg o.cells] H (Is H (.int .i64 (refChk o : Nat))) := by
  refine .enter Try.func61 rfl rfl rfl 17 Try.ntmps61 (Nat.le_of_ble_eq_true rfl) ?_
  obtain ⟨b3, h3⟩ : ∃ b, decide (((o.rsz : Nat) : Int) > 65536) = b := ⟨_, rfl⟩
  obtain ⟨b2, h2⟩ : ∃ b, (!o.shp) = b := ⟨_, rfl⟩
  repeat' first
    | refine WpA.seq ?_
    | refine WpA.region ?_
    | refine WpOps.op _ rfl rfl rfl rfl rfl ?_
    | refine WpOps.box _ rfl rfl rfl rfl rfl ?_
    | refine WpOps.alloc _ rfl rfl rfl rfl rfl rfl ?_
    | refine WpOps.store rfl rfl rfl rfl rfl rfl rfl rfl rfl rfl ?_
    | refine WpOps.skip rfl rfl rfl ?_
    | refine WpOps.build _ rfl rfl rfl rfl rfl ?_
    | refine WpOps.sh _ rfl rfl rfl rfl rfl ?_
    | (refine WpOps.call rfl rfl rfl rfl rfl (by exact rCount_A o _ hs) ?_; rintro _ _ ⟨rfl, rfl⟩)
    | (refine WpOps.call rfl rfl rfl rfl rfl (by exact rDepth_A o _ hs) ?_; rintro _ _ ⟨rfl, rfl⟩)
    | (refine WpOps.call rfl rfl rfl rfl rfl (by exact rShaped_A o _ hs) ?_; rintro _ _ ⟨rfl, rfl⟩)
    | (refine WpOps.call rfl rfl rfl rfl rfl (by exact rSize_A o _ hs) ?_; rintro _ _ ⟨rfl, rfl⟩)
    | refine WpOps.gsplit _ rfl rfl rfl (fun h => ?_) (fun h => ?_)
    | refine WpA.block ?_
    | refine WpA.exit ?_
    | refine WpOps.nil ?_
    | refine WpA.ret ?_
    | refine WpA.skip ?_
    | refine WpA.draw (by kernel_rfl) ?_
    | refine LexA.op _ rfl rfl rfl rfl rfl ?_
    | refine LexA.skip rfl rfl rfl ?_
    | refine LexA.build _ rfl rfl rfl rfl rfl ?_
    | refine LexA.sh _ rfl rfl rfl rfl rfl ?_
    | refine LexA.call rfl rfl rfl rfl rfl (by exact rCount_A o _ hs) ?_
    | refine LexA.call rfl rfl rfl rfl rfl (by exact rDepth_A o _ hs) ?_
    | refine LexA.call rfl rfl rfl rfl rfl (by exact rShaped_A o _ hs) ?_
    | refine LexA.call rfl rfl rfl rfl rfl (by exact rSize_A o _ hs) ?_
    | refine LexA.gsplit _ rfl rfl rfl (fun h => ?_) (fun h => ?_)
    | refine LexA.nil ?_
  · have h1 := of_decide_eq_true h
    have e : refChk o = 4 := by rw [refChk, if_pos (.inl (by omega))]
    rw [e]
    refine WpA.condT rfl ?_
    repeat' first
      | refine WpA.seq ?_
      | refine WpA.region ?_
      | refine WpOps.op _ rfl rfl rfl rfl rfl ?_
      | refine WpOps.box _ rfl rfl rfl rfl rfl ?_
      | refine WpOps.alloc _ rfl rfl rfl rfl rfl rfl ?_
      | refine WpOps.store rfl rfl rfl rfl rfl rfl rfl rfl rfl rfl ?_
      | refine WpOps.skip rfl rfl rfl ?_
      | refine WpOps.build _ rfl rfl rfl rfl rfl ?_
      | refine WpOps.sh _ rfl rfl rfl rfl rfl ?_
      | refine WpOps.gsplit _ rfl rfl rfl (fun h => ?_) (fun h => ?_)
      | refine WpA.block ?_
      | refine WpA.exit ?_
      | refine WpOps.nil ?_
      | refine WpA.ret ?_
      | refine WpA.skip ?_
      | refine WpA.draw (by kernel_rfl) ?_
      | refine LexA.op _ rfl rfl rfl rfl rfl ?_
      | refine LexA.skip rfl rfl rfl ?_
      | refine LexA.build _ rfl rfl rfl rfl rfl ?_
      | refine LexA.sh _ rfl rfl rfl rfl rfl ?_
      | refine LexA.gsplit _ rfl rfl rfl (fun h => ?_) (fun h => ?_)
      | refine LexA.nil ?_
    exact retK.ok rfl rfl rfl .int
  · have h1 := of_decide_eq_false h
    refine WpA.cond _ rfl (fun h => ?_) (fun h => ?_)
    · have h5 : decide (((o.dep : Nat) : Int) > 12) = true := h
      have h6 := of_decide_eq_true h5
      have e : refChk o = 4 := by rw [refChk, if_pos (.inr (by omega))]
      rw [e]
      repeat' first
        | refine WpA.seq ?_
        | refine WpA.region ?_
        | refine WpOps.op _ rfl rfl rfl rfl rfl ?_
        | refine WpOps.box _ rfl rfl rfl rfl rfl ?_
        | refine WpOps.alloc _ rfl rfl rfl rfl rfl rfl ?_
        | refine WpOps.store rfl rfl rfl rfl rfl rfl rfl rfl rfl rfl ?_
        | refine WpOps.skip rfl rfl rfl ?_
        | refine WpOps.build _ rfl rfl rfl rfl rfl ?_
        | refine WpOps.sh _ rfl rfl rfl rfl rfl ?_
        | refine WpOps.gsplit _ rfl rfl rfl (fun h => ?_) (fun h => ?_)
        | refine WpA.block ?_
        | refine WpA.exit ?_
        | refine WpOps.nil ?_
        | refine WpA.ret ?_
        | refine WpA.skip ?_
        | refine WpA.draw (by kernel_rfl) ?_
        | refine LexA.op _ rfl rfl rfl rfl rfl ?_
        | refine LexA.skip rfl rfl rfl ?_
        | refine LexA.build _ rfl rfl rfl rfl rfl ?_
        | refine LexA.sh _ rfl rfl rfl rfl rfl ?_
        | refine LexA.gsplit _ rfl rfl rfl (fun h => ?_) (fun h => ?_)
        | refine LexA.nil ?_
      exact retK.ok rfl rfl rfl .int
    have h5 : decide (((o.dep : Nat) : Int) > 12) = false := h
    have h6 := of_decide_eq_false h5
    repeat' first
      | refine WpA.seq ?_
      | refine WpA.region ?_
      | refine WpOps.op _ rfl rfl rfl rfl rfl ?_
      | refine WpOps.box _ rfl rfl rfl rfl rfl ?_
      | refine WpOps.alloc _ rfl rfl rfl rfl rfl rfl ?_
      | refine WpOps.store rfl rfl rfl rfl rfl rfl rfl rfl rfl rfl ?_
      | refine WpOps.skip rfl rfl rfl ?_
      | refine WpOps.build _ rfl rfl rfl rfl rfl ?_
      | refine WpOps.sh _ rfl rfl rfl rfl rfl ?_
      | (refine WpOps.call rfl rfl rfl rfl rfl (by exact rCount_A o _ hs) ?_; rintro _ _ ⟨rfl, rfl⟩)
      | (refine WpOps.call rfl rfl rfl rfl rfl (by exact rDepth_A o _ hs) ?_; rintro _ _ ⟨rfl, rfl⟩)
      | (refine WpOps.call rfl rfl rfl rfl rfl (by exact rShaped_A o _ hs) ?_; rintro _ _ ⟨rfl, rfl⟩)
      | (refine WpOps.call rfl rfl rfl rfl rfl (by exact rSize_A o _ hs) ?_; rintro _ _ ⟨rfl, rfl⟩)
      | refine WpOps.gsplit _ rfl rfl rfl (fun h => ?_) (fun h => ?_)
      | refine WpA.block ?_
      | refine WpA.exit ?_
      | refine WpOps.nil ?_
      | refine WpA.ret ?_
      | refine WpA.skip ?_
      | refine WpA.draw (by kernel_rfl) ?_
      | refine LexA.op _ rfl rfl rfl rfl rfl ?_
      | refine LexA.skip rfl rfl rfl ?_
      | refine LexA.build _ rfl rfl rfl rfl rfl ?_
      | refine LexA.sh _ rfl rfl rfl rfl rfl ?_
      | refine LexA.call rfl rfl rfl rfl rfl (by exact rCount_A o _ hs) ?_
      | refine LexA.call rfl rfl rfl rfl rfl (by exact rDepth_A o _ hs) ?_
      | refine LexA.call rfl rfl rfl rfl rfl (by exact rShaped_A o _ hs) ?_
      | refine LexA.call rfl rfl rfl rfl rfl (by exact rSize_A o _ hs) ?_
      | refine LexA.gsplit _ rfl rfl rfl (fun h => ?_) (fun h => ?_)
      | refine LexA.nil ?_
    refine WpA.cond b2 (congrArg AV.bool h2) (fun h => ?_) (fun h => ?_)
    · subst h
      have h7 : o.shp = false := by simpa using h2
      have e : refChk o = 8 := by rw [refChk, if_neg (by omega), h7]; rfl
      rw [e]
      repeat' first
        | refine WpA.seq ?_
        | refine WpA.region ?_
        | refine WpOps.op _ rfl rfl rfl rfl rfl ?_
        | refine WpOps.box _ rfl rfl rfl rfl rfl ?_
        | refine WpOps.alloc _ rfl rfl rfl rfl rfl rfl ?_
        | refine WpOps.store rfl rfl rfl rfl rfl rfl rfl rfl rfl rfl ?_
        | refine WpOps.skip rfl rfl rfl ?_
        | refine WpOps.build _ rfl rfl rfl rfl rfl ?_
        | refine WpOps.sh _ rfl rfl rfl rfl rfl ?_
        | refine WpOps.gsplit _ rfl rfl rfl (fun h => ?_) (fun h => ?_)
        | refine WpA.block ?_
        | refine WpA.exit ?_
        | refine WpOps.nil ?_
        | refine WpA.ret ?_
        | refine WpA.skip ?_
        | refine WpA.draw (by kernel_rfl) ?_
        | refine LexA.op _ rfl rfl rfl rfl rfl ?_
        | refine LexA.skip rfl rfl rfl ?_
        | refine LexA.build _ rfl rfl rfl rfl rfl ?_
        | refine LexA.sh _ rfl rfl rfl rfl rfl ?_
        | refine LexA.gsplit _ rfl rfl rfl (fun h => ?_) (fun h => ?_)
        | refine LexA.nil ?_
      exact retK.ok rfl rfl rfl .int
    subst h
    have h7 : o.shp = true := by simpa using h2
    repeat' first
      | refine WpA.seq ?_
      | refine WpA.region ?_
      | refine WpOps.op _ rfl rfl rfl rfl rfl ?_
      | refine WpOps.box _ rfl rfl rfl rfl rfl ?_
      | refine WpOps.alloc _ rfl rfl rfl rfl rfl rfl ?_
      | refine WpOps.store rfl rfl rfl rfl rfl rfl rfl rfl rfl rfl ?_
      | refine WpOps.skip rfl rfl rfl ?_
      | refine WpOps.build _ rfl rfl rfl rfl rfl ?_
      | refine WpOps.sh _ rfl rfl rfl rfl rfl ?_
      | (refine WpOps.call rfl rfl rfl rfl rfl (by exact rCount_A o _ hs) ?_; rintro _ _ ⟨rfl, rfl⟩)
      | (refine WpOps.call rfl rfl rfl rfl rfl (by exact rDepth_A o _ hs) ?_; rintro _ _ ⟨rfl, rfl⟩)
      | (refine WpOps.call rfl rfl rfl rfl rfl (by exact rShaped_A o _ hs) ?_; rintro _ _ ⟨rfl, rfl⟩)
      | (refine WpOps.call rfl rfl rfl rfl rfl (by exact rSize_A o _ hs) ?_; rintro _ _ ⟨rfl, rfl⟩)
      | refine WpOps.gsplit _ rfl rfl rfl (fun h => ?_) (fun h => ?_)
      | refine WpA.block ?_
      | refine WpA.exit ?_
      | refine WpOps.nil ?_
      | refine WpA.ret ?_
      | refine WpA.skip ?_
      | refine WpA.draw (by kernel_rfl) ?_
      | refine LexA.op _ rfl rfl rfl rfl rfl ?_
      | refine LexA.skip rfl rfl rfl ?_
      | refine LexA.build _ rfl rfl rfl rfl rfl ?_
      | refine LexA.sh _ rfl rfl rfl rfl rfl ?_
      | refine LexA.call rfl rfl rfl rfl rfl (by exact rCount_A o _ hs) ?_
      | refine LexA.call rfl rfl rfl rfl rfl (by exact rDepth_A o _ hs) ?_
      | refine LexA.call rfl rfl rfl rfl rfl (by exact rShaped_A o _ hs) ?_
      | refine LexA.call rfl rfl rfl rfl rfl (by exact rSize_A o _ hs) ?_
      | refine LexA.gsplit _ rfl rfl rfl (fun h => ?_) (fun h => ?_)
      | refine LexA.nil ?_
    refine WpA.cond b3 (congrArg AV.bool h3) (fun h => ?_) (fun h => ?_)
    · subst h
      have h8 := of_decide_eq_true h3
      have e : refChk o = 4 := by rw [refChk, if_neg (by omega), if_pos h7, if_pos (by omega)]
      rw [e]
      repeat' first
        | refine WpA.seq ?_
        | refine WpA.region ?_
        | refine WpOps.op _ rfl rfl rfl rfl rfl ?_
        | refine WpOps.box _ rfl rfl rfl rfl rfl ?_
        | refine WpOps.alloc _ rfl rfl rfl rfl rfl rfl ?_
        | refine WpOps.store rfl rfl rfl rfl rfl rfl rfl rfl rfl rfl ?_
        | refine WpOps.skip rfl rfl rfl ?_
        | refine WpOps.build _ rfl rfl rfl rfl rfl ?_
        | refine WpOps.sh _ rfl rfl rfl rfl rfl ?_
        | refine WpOps.gsplit _ rfl rfl rfl (fun h => ?_) (fun h => ?_)
        | refine WpA.block ?_
        | refine WpA.exit ?_
        | refine WpOps.nil ?_
        | refine WpA.ret ?_
        | refine WpA.skip ?_
        | refine WpA.draw (by kernel_rfl) ?_
        | refine LexA.op _ rfl rfl rfl rfl rfl ?_
        | refine LexA.skip rfl rfl rfl ?_
        | refine LexA.build _ rfl rfl rfl rfl rfl ?_
        | refine LexA.sh _ rfl rfl rfl rfl rfl ?_
        | refine LexA.gsplit _ rfl rfl rfl (fun h => ?_) (fun h => ?_)
        | refine LexA.nil ?_
      exact retK.ok rfl rfl rfl .int
    · subst h
      have h8 := of_decide_eq_false h3
      have e : refChk o = 0 := by rw [refChk, if_neg (by omega), if_pos h7, if_neg (by omega)]
      rw [e]
      repeat' first
        | refine WpA.seq ?_
        | refine WpA.region ?_
        | refine WpOps.op _ rfl rfl rfl rfl rfl ?_
        | refine WpOps.box _ rfl rfl rfl rfl rfl ?_
        | refine WpOps.alloc _ rfl rfl rfl rfl rfl rfl ?_
        | refine WpOps.store rfl rfl rfl rfl rfl rfl rfl rfl rfl rfl ?_
        | refine WpOps.skip rfl rfl rfl ?_
        | refine WpOps.build _ rfl rfl rfl rfl rfl ?_
        | refine WpOps.sh _ rfl rfl rfl rfl rfl ?_
        | refine WpOps.gsplit _ rfl rfl rfl (fun h => ?_) (fun h => ?_)
        | refine WpA.block ?_
        | refine WpA.exit ?_
        | refine WpOps.nil ?_
        | refine WpA.ret ?_
        | refine WpA.skip ?_
        | refine WpA.draw (by kernel_rfl) ?_
        | refine LexA.op _ rfl rfl rfl rfl rfl ?_
        | refine LexA.skip rfl rfl rfl ?_
        | refine LexA.build _ rfl rfl rfl rfl rfl ?_
        | refine LexA.sh _ rfl rfl rfl rfl rfl ?_
        | refine LexA.gsplit _ rfl rfl rfl (fun h => ?_) (fun h => ?_)
        | refine LexA.nil ?_
      exact retK.ok rfl rfl rfl .int
end Go.Gp.Try

/- The reference's octets: Twin, Seq. -/
namespace Go.Gp.Try
open Go.Proofs
set_option linter.unusedVariables false
set_option linter.unusedSimpArgs false
set_option maxHeartbeats 4000000
set_option maxRecDepth 100000

theorem cells_one (o : Oct) : ∀ y ∈ [o.cells], ∀ a ∈ y, a.one = true := by
  intro y hy a ha
  have hy' := List.mem_singleton.1 hy
  subst hy'
  simp only [Oct.cells, octA, List.mem_cons, List.not_mem_nil, or_false] at ha
  rcases ha with rfl | rfl | rfl <;> rfl
theorem cellsL_take {is : List Oct} {i : Nat} (h : i < is.length) : Oct.cellsL (is.take i) ++ [is[i].cells] = Oct.cellsL (is.take (i + 1)) := by
  rw [List.take_succ_eq_append_getElem h, cellsL_map, cellsL_map, List.map_append]; rfl

theorem rTwin_A : ∀ (o : Oct) (H : List AObj), o.size ≤ 1000000000000 → CallsA E 69 [.agg o.cells] H (Is H (.agg o.cells))
  | .mk tg bs is, H, hs => by
    have hs0 := hs
    rw [size_mk] at hs
    have hbs : (bs.map byteRow).length = bs.length := List.length_map _
    have hli : is.length ≤ Oct.sizeL is := length_le_sizeL is
    have hcl := cellsL_length is
    have ih : ∀ (i : Nat) (h : i < is.length) (H : List AObj), CallsA E 69 [.agg (is[i]).cells] H (Is H (.agg (is[i]).cells)) := fun i h H => rTwin_A is[i] H (by have := size_get h; omega)
    have hfit : (0 + (bs.map byteRow).length) * 1 ≤ 140737488355328 := by rw [hbs]; omega
    refine .enter Try.func69 rfl rfl rfl 31 Try.ntmps69 (Nat.le_of_ble_eq_true rfl) ?_
    repeat' first
      | refine WpA.drawI [H.length + 0] [0, 4, 0, 0, 4, 0, 0, 3, 2] (by kernel_rfl) (by kernel_rfl) ?_
      | refine WpA.seq ?_
      | refine WpA.region ?_
      | refine WpOps.op _ rfl rfl rfl rfl rfl ?_
      | refine WpOps.box _ rfl rfl rfl rfl rfl ?_
      | refine WpOps.alloc _ rfl rfl rfl rfl rfl rfl ?_
      | refine WpOps.store rfl rfl rfl rfl rfl rfl rfl rfl rfl rfl ?_
      | refine WpOps.skip rfl rfl rfl ?_
      | refine WpOps.build _ rfl rfl rfl rfl rfl ?_
      | refine WpOps.sh _ rfl rfl rfl rfl rfl ?_
      | (refine LexH.alloc3 _ rfl rfl rfl rfl rfl rfl rfl ?_)
      | (refine LexH.appF rfl rfl rfl rfl rfl rfl rfl rfl (fun k h => by cases h) rfl rfl rfl (by exact hfit) ?_)
      | refine WpOps.gsplit _ rfl rfl rfl (fun h => ?_) (fun h => ?_)
      | refine WpA.block ?_
      | refine WpA.exit ?_
      | refine WpOps.nil ?_
      | refine WpA.ret ?_
      | refine WpA.skip ?_
      | refine WpA.condT rfl ?_
      | refine WpA.condF rfl ?_
      | refine WpA.cond _ rfl (fun h => ?_) (fun h => ?_)
      | refine WpA.drawC (by kernel_rfl) (by kernel_rfl) ?_
      | refine LexH.op0 _ rfl rfl rfl rfl rfl (fun _ => rfl) ?_
      | refine LexH.op1 _ rfl rfl rfl rfl rfl rfl ?_
      | refine LexH.load4 _ rfl rfl rfl rfl rfl rfl (by simp) rfl rfl rfl rfl ?_
      | refine LexH.skip rfl rfl rfl ?_
      | refine LexH.build _ rfl rfl rfl rfl rfl rfl ?_
      | refine LexH.buildSlice _ rfl rfl rfl rfl rfl rfl rfl rfl rfl rfl rfl rfl ?_
      | refine LexH.store rfl rfl rfl rfl rfl rfl rfl rfl rfl rfl rfl ?_
      | refine LexH.sh _ rfl rfl rfl rfl rfl rfl ?_
      | refine LexH.gsplit _ rfl rfl rfl (fun h => ?_) (fun h => ?_)
      | refine LexH.nil ?_
    refine WpA.adoptC (j := 2) (q := 2) 3 rfl rfl ?_
    refine WpA.loopFor is.length (fun i => [(1, .ptr H.length 0 0), (2, .ptr H.length 1 0), (3, .ptr H.length 2 0), (4, .int .i64 (i : Nat))])
      (fun i => H ++ [.cells (Oct.mk tg bs is).cells, .cells [.int .u8 0, .sl .full 0 [], .sl .full 0 []], .cells [u8 tg, .sl .no 1 (bs.map byteRow), .sl (.row H.length 3) 3 (Oct.cellsL (is.take i))], .tail (Oct.cellsL (is.take i)).length 3]) (fun _ => True) trivial ⟨rfl, rfl, rfl, rfl, trivial⟩ ?_ (fun i hi _ => ?_) (fun _ => ?_)
    · rw [List.take_zero, cellsL_map]; rfl
    · have hc : (Oct.cellsL is)[((i : Nat) : Int).toNat]? = some (is[i]).cells := by rw [Int.toNat_natCast]; exact cellsL_get hi
      have hlt : decide (((i : Nat) : Int) < ((Oct.cellsL is).length : Nat)) = true := by rw [cellsL_length]; simp; omega
      have hfit2 : ((Oct.cellsL (is.take i)).length + 1) * 56 ≤ 140737488355328 := by rw [cellsL_length, List.length_take]; omega
      repeat' first
        | refine WpA.seq ?_
        | refine WpA.region ?_
        | refine WpOps.op _ rfl rfl rfl rfl rfl ?_
        | refine WpOps.box _ rfl rfl rfl rfl rfl ?_
        | refine WpOps.alloc _ rfl rfl rfl rfl rfl rfl ?_
        | refine WpOps.store rfl rfl rfl rfl rfl rfl rfl rfl rfl rfl ?_
        | refine WpOps.skip rfl rfl rfl ?_
        | refine WpOps.build _ rfl rfl rfl rfl rfl ?_
        | refine WpOps.sh _ rfl rfl rfl rfl rfl ?_
        | refine WpOps.gsplit _ rfl rfl rfl (fun h => ?_) (fun h => ?_)
        | refine WpA.block ?_
        | refine WpA.exit ?_
        | refine WpOps.nil ?_
        | refine WpA.ret ?_
        | refine WpA.skip ?_
        | refine WpA.condT rfl ?_
        | refine WpA.condF rfl ?_
        | refine WpA.drawC (by kernel_rfl) (by kernel_rfl) ?_
        | refine LexH.op0 _ rfl rfl rfl rfl rfl (fun _ => rfl) ?_
        | refine LexH.op1 _ rfl rfl rfl rfl rfl rfl ?_
        | refine LexH.load4 _ rfl rfl rfl rfl rfl rfl (by simp) rfl rfl rfl rfl ?_
        | refine LexH.skip rfl rfl rfl ?_
        | refine LexH.build _ rfl rfl rfl rfl rfl rfl ?_
        | refine LexH.buildSlice _ rfl rfl rfl rfl rfl rfl rfl rfl rfl rfl rfl rfl ?_
        | refine LexH.store rfl rfl rfl rfl rfl rfl rfl rfl rfl rfl rfl ?_
        | refine LexH.sh _ rfl rfl rfl rfl rfl rfl ?_
        | refine LexH.gsplit _ rfl rfl rfl (fun h => ?_) (fun h => ?_)
        | refine LexH.nil ?_
      refine WpA.cond true (congrArg AV.bool hlt) (fun h => ?_) (fun h => by cases h)
      repeat' first
        | refine WpA.drawI [H.length + 0, H.length + 2] [0, 4, 0, 4, 0, 0, 0, 0, 0, 3, 0, 2] (by kernel_rfl) (by kernel_rfl) ?_
        | refine WpA.seq ?_
        | refine WpA.region ?_
        | refine WpOps.op _ rfl rfl rfl rfl rfl ?_
        | refine WpOps.box _ rfl rfl rfl rfl rfl ?_
        | refine WpOps.alloc _ rfl rfl rfl rfl rfl rfl ?_
        | refine WpOps.store rfl rfl rfl rfl rfl rfl rfl rfl rfl rfl ?_
        | refine WpOps.skip rfl rfl rfl ?_
        | refine WpOps.build _ rfl rfl rfl rfl rfl ?_
        | refine WpOps.sh _ rfl rfl rfl rfl rfl ?_
        | (refine WpOps.call rfl rfl rfl rfl rfl (by exact ih i hi _) ?_; rintro _ _ ⟨rfl, rfl⟩)
        | (refine LexH.elem (is[i]).cells rfl rfl rfl rfl rfl rfl rfl rfl rfl rfl (Int.natCast_nonneg i) hc ?_)
        | (refine LexH.appR3 rfl rfl rfl rfl rfl rfl rfl rfl (fun k h => by cases h) rfl rfl rfl rfl rfl rfl (by exact cells_one is[i]) (by exact hfit2) (by exact Like.two (fun _ h => h) (fun _ h => h)) ?_)
        | refine WpOps.gsplit _ rfl rfl rfl (fun h => ?_) (fun h => ?_)
        | refine WpA.block ?_
        | refine WpA.exit ?_
        | refine WpOps.nil ?_
        | refine WpA.ret ?_
        | refine WpA.skip ?_
        | refine WpA.condT rfl ?_
        | refine WpA.condF rfl ?_
        | refine WpA.cond _ rfl (fun h => ?_) (fun h => ?_)
        | refine WpA.drawC (by kernel_rfl) (by kernel_rfl) ?_
        | refine LexH.op0 _ rfl rfl rfl rfl rfl (fun _ => rfl) ?_
        | refine LexH.op1 _ rfl rfl rfl rfl rfl rfl ?_
        | refine LexH.load4 _ rfl rfl rfl rfl rfl rfl (by simp) rfl rfl rfl rfl ?_
        | refine LexH.skip rfl rfl rfl ?_
        | refine LexH.build _ rfl rfl rfl rfl rfl rfl ?_
        | refine LexH.buildSlice _ rfl rfl rfl rfl rfl rfl rfl rfl rfl rfl rfl rfl ?_
        | refine LexH.store rfl rfl rfl rfl rfl rfl rfl rfl rfl rfl rfl ?_
        | refine LexH.sh _ rfl rfl rfl rfl rfl rfl ?_
        | refine LexH.call rfl rfl rfl rfl rfl rfl (by exact ih i hi _) ?_
        | refine LexH.call0 rfl rfl rfl rfl rfl rfl (fun _ => by exact ih i hi _) ?_
        | refine LexH.gsplit _ rfl rfl rfl (fun h => ?_) (fun h => ?_)
        | refine LexH.nil ?_
      refine ⟨trivial, ⟨rfl, rfl, rfl, congrArg (AV.int .i64) (wrap64 (by omega) (by omega)), trivial⟩, ?_⟩
      rw [← cellsL_take hi]
      rfl
    · have hlt : decide (((is.length : Nat) : Int) < ((Oct.cellsL is).length : Nat)) = false := by rw [cellsL_length]; simp
      repeat' first
        | refine WpA.seq ?_
        | refine WpA.region ?_
        | refine WpOps.op _ rfl rfl rfl rfl rfl ?_
        | refine WpOps.box _ rfl rfl rfl rfl rfl ?_
        | refine WpOps.alloc _ rfl rfl rfl rfl rfl rfl ?_
        | refine WpOps.store rfl rfl rfl rfl rfl rfl rfl rfl rfl rfl ?_
        | refine WpOps.skip rfl rfl rfl ?_
        | refine WpOps.build _ rfl rfl rfl rfl rfl ?_
        | refine WpOps.sh _ rfl rfl rfl rfl rfl ?_
        | refine WpOps.gsplit _ rfl rfl rfl (fun h => ?_) (fun h => ?_)
        | refine WpA.block ?_
        | refine WpA.exit ?_
        | refine WpOps.nil ?_
        | refine WpA.ret ?_
        | refine WpA.skip ?_
        | refine WpA.condT rfl ?_
        | refine WpA.condF rfl ?_
        | refine WpA.drawC (by kernel_rfl) (by kernel_rfl) ?_
        | refine LexH.op0 _ rfl rfl rfl rfl rfl (fun _ => rfl) ?_
        | refine LexH.op1 _ rfl rfl rfl rfl rfl rfl ?_
        | refine LexH.load4 _ rfl rfl rfl rfl rfl rfl (by simp) rfl rfl rfl rfl ?_
        | refine LexH.skip rfl rfl rfl ?_
        | refine LexH.build _ rfl rfl rfl rfl rfl rfl ?_
        | refine LexH.buildSlice _ rfl rfl rfl rfl rfl rfl rfl rfl rfl rfl rfl rfl ?_
        | refine LexH.store rfl rfl rfl rfl rfl rfl rfl rfl rfl rfl rfl ?_
        | refine LexH.sh _ rfl rfl rfl rfl rfl rfl ?_
        | refine LexH.gsplit _ rfl rfl rfl (fun h => ?_) (fun h => ?_)
        | refine LexH.nil ?_
      refine WpA.cond false (congrArg AV.bool hlt) (fun h => by cases h) (fun h => ?_)
      repeat' first
        | refine WpA.seq ?_
        | refine WpA.region ?_
        | refine WpOps.op _ rfl rfl rfl rfl rfl ?_
        | refine WpOps.box _ rfl rfl rfl rfl rfl ?_
        | refine WpOps.alloc _ rfl rfl rfl rfl rfl rfl ?_
        | refine WpOps.store rfl rfl rfl rfl rfl rfl rfl rfl rfl rfl ?_
        | refine WpOps.skip rfl rfl rfl ?_
        | refine WpOps.build _ rfl rfl rfl rfl rfl ?_
        | refine WpOps.sh _ rfl rfl rfl rfl rfl ?_
        | refine WpOps.gsplit _ rfl rfl rfl (fun h => ?_) (fun h => ?_)
        | refine WpA.block ?_
        | refine WpA.exit ?_
        | refine WpOps.nil ?_
        | refine WpA.ret ?_
        | refine WpA.skip ?_
        | refine WpA.condT rfl ?_
        | refine WpA.condF rfl ?_
        | refine WpA.cond _ rfl (fun h => ?_) (fun h => ?_)
        | refine WpA.draw (by kernel_rfl) ?_
        | refine LexA.op _ rfl rfl rfl rfl rfl ?_
        | refine LexA.skip rfl rfl rfl ?_
        | refine LexA.build _ rfl rfl rfl rfl rfl ?_
        | refine LexA.sh _ rfl rfl rfl rfl rfl ?_
        | refine LexA.gsplit _ rfl rfl rfl (fun h => ?_) (fun h => ?_)
        | refine LexA.nil ?_
      refine retK.sub (.inr rfl) rfl (TrOk.refl H) (L := _) rfl rfl (Sub.agg (vs := octA tg bs (Oct.cellsL is)) ⟨Sub.refl _, Sub.refl _, ?_, trivial⟩) (Oct.bdA _ (.mk tg bs is)) ⟨rfl, rfl⟩
      rw [List.take_length]
      exact Sub.untag
termination_by o => SizeOf.sizeOf o
decreasing_by exact sizeOf_get h

theorem rSeq_A (t : UInt8) (tg : Tag) (is : List Oct) (H : List AObj) (hs : Oct.sizeL is ≤ 900000000000) : CallsA E 53 [u8 t, .sl tg 3 (Oct.cellsL is)] H (Is H (.agg (Oct.mk t [] is).cells)) := by
  have hli : is.length ≤ Oct.sizeL is := length_le_sizeL is
  have ih : ∀ (i : Nat) (h : i < is.length) (H : List AObj), CallsA E 69 [.agg (is[i]).cells] H (Is H (.agg (is[i]).cells)) := fun i h H => rTwin_A is[i] H (by have := size_get h; omega)
  refine .enter Try.func53 rfl rfl rfl 26 Try.ntmps53 (Nat.le_of_ble_eq_true rfl) ?_
  repeat' first
    | refine WpA.seq ?_
    | refine WpA.region ?_
    | refine WpOps.op _ rfl rfl rfl rfl rfl ?_
    | refine WpOps.box _ rfl rfl rfl rfl rfl ?_
    | refine WpOps.alloc _ rfl rfl rfl rfl rfl rfl ?_
    | refine WpOps.store rfl rfl rfl rfl rfl rfl rfl rfl rfl rfl ?_
    | refine WpOps.skip rfl rfl rfl ?_
    | refine WpOps.build _ rfl rfl rfl rfl rfl ?_
    | refine WpOps.sh _ rfl rfl rfl rfl rfl ?_
    | refine WpOps.gsplit _ rfl rfl rfl (fun h => ?_) (fun h => ?_)
    | refine WpA.block ?_
    | refine WpA.exit ?_
    | refine WpOps.nil ?_
    | refine WpA.ret ?_
    | refine WpA.skip ?_
    | refine WpA.condT rfl ?_
    | refine WpA.condF rfl ?_
    | refine WpA.cond _ rfl (fun h => ?_) (fun h => ?_)
    | refine WpA.drawC (by kernel_rfl) (by kernel_rfl) ?_
    | refine LexH.op0 _ rfl rfl rfl rfl rfl (fun _ => rfl) ?_
    | refine LexH.op1 _ rfl rfl rfl rfl rfl rfl ?_
    | refine LexH.load4 _ rfl rfl rfl rfl rfl rfl (by simp) rfl rfl rfl rfl ?_
    | refine LexH.skip rfl rfl rfl ?_
    | refine LexH.build _ rfl rfl rfl rfl rfl rfl ?_
    | refine LexH.buildSlice _ rfl rfl rfl rfl rfl rfl rfl rfl rfl rfl rfl rfl ?_
    | refine LexH.store rfl rfl rfl rfl rfl rfl rfl rfl rfl rfl rfl ?_
    | refine LexH.sh _ rfl rfl rfl rfl rfl rfl ?_
    | refine LexH.gsplit _ rfl rfl rfl (fun h => ?_) (fun h => ?_)
    | refine LexH.nil ?_
  refine WpA.adoptC (j := 1) (q := 2) 3 rfl rfl ?_
  refine WpA.loopFor is.length (fun i => [(1, .sl tg 3 (Oct.cellsL is)), (4, .ptr H.length 0 0), (5, .ptr H.length 1 0), (6, .int .i64 (i : Nat))])
    (fun i => H ++ [.cells [.int .u8 0, .sl .full 0 [], .sl .full 0 []], .cells [u8 t, .sl .full 0 [], .sl (.row H.length 2) 3 (Oct.cellsL (is.take i))], .tail (Oct.cellsL (is.take i)).length 3]) (fun _ => True) trivial ⟨rfl, rfl, rfl, rfl, trivial⟩ ?_ (fun i hi _ => ?_) (fun _ => ?_)
  · rw [List.take_zero, cellsL_map]; rfl
  · have hc : (Oct.cellsL is)[((i : Nat) : Int).toNat]? = some (is[i]).cells := by rw [Int.toNat_natCast]; exact cellsL_get hi
    have hlt : decide (((i : Nat) : Int) < ((Oct.cellsL is).length : Nat)) = true := by rw [cellsL_length]; simp; omega
    have hfit2 : ((Oct.cellsL (is.take i)).length + 1) * 56 ≤ 140737488355328 := by rw [cellsL_length, List.length_take]; omega
    repeat' first
      | refine WpA.seq ?_
      | refine WpA.region ?_
      | refine WpOps.op _ rfl rfl rfl rfl rfl ?_
      | refine WpOps.box _ rfl rfl rfl rfl rfl ?_
      | refine WpOps.alloc _ rfl rfl rfl rfl rfl rfl ?_
      | refine WpOps.store rfl rfl rfl rfl rfl rfl rfl rfl rfl rfl ?_
      | refine WpOps.skip rfl rfl rfl ?_
      | refine WpOps.build _ rfl rfl rfl rfl rfl ?_
      | refine WpOps.sh _ rfl rfl rfl rfl rfl ?_
      | refine WpOps.gsplit _ rfl rfl rfl (fun h => ?_) (fun h => ?_)
      | refine WpA.block ?_
      | refine WpA.exit ?_
      | refine WpOps.nil ?_
      | refine WpA.ret ?_
      | refine WpA.skip ?_
      | refine WpA.condT rfl ?_
      | refine WpA.condF rfl ?_
      | refine WpA.drawC (by kernel_rfl) (by kernel_rfl) ?_
      | refine LexH.op0 _ rfl rfl rfl rfl rfl (fun _ => rfl) ?_
      | refine LexH.op1 _ rfl rfl rfl rfl rfl rfl ?_
      | refine LexH.load4 _ rfl rfl rfl rfl rfl rfl (by simp) rfl rfl rfl rfl ?_
      | refine LexH.skip rfl rfl rfl ?_
      | refine LexH.build _ rfl rfl rfl rfl rfl rfl ?_
      | refine LexH.buildSlice _ rfl rfl rfl rfl rfl rfl rfl rfl rfl rfl rfl rfl ?_
      | refine LexH.store rfl rfl rfl rfl rfl rfl rfl rfl rfl rfl rfl ?_
      | refine LexH.sh _ rfl rfl rfl rfl rfl rfl ?_
      | refine LexH.gsplit _ rfl rfl rfl (fun h => ?_) (fun h => ?_)
      | refine LexH.nil ?_
    refine WpA.cond true (congrArg AV.bool hlt) (fun h => ?_) (fun h => by cases h)
    repeat' first
      | refine WpA.drawI [H.length + 1] [0, 4, 0, 0, 0, 0, 0, 0, 3, 0, 2] (by kernel_rfl) (by kernel_rfl) ?_
      | refine WpA.seq ?_
      | refine WpA.region ?_
      | refine WpOps.op _ rfl rfl rfl rfl rfl ?_
      | refine WpOps.box _ rfl rfl rfl rfl rfl ?_
      | refine WpOps.alloc _ rfl rfl rfl rfl rfl rfl ?_
      | refine WpOps.store rfl rfl rfl rfl rfl rfl rfl rfl rfl rfl ?_
      | refine WpOps.skip rfl rfl rfl ?_
      | refine WpOps.build _ rfl rfl rfl rfl rfl ?_
      | refine WpOps.sh _ rfl rfl rfl rfl rfl ?_
      | (refine WpOps.call rfl rfl rfl rfl rfl (by exact ih i hi _) ?_; rintro _ _ ⟨rfl, rfl⟩)
      | (refine LexH.elem (is[i]).cells rfl rfl rfl rfl rfl rfl rfl rfl rfl rfl (Int.natCast_nonneg i) hc ?_)
      | (refine LexH.appR3 rfl rfl rfl rfl rfl rfl rfl rfl (fun k h => by cases h) rfl rfl rfl rfl rfl rfl (by exact cells_one is[i]) (by exact hfit2) (by exact Like.one fun _ h => h) ?_)
      | refine WpOps.gsplit _ rfl rfl rfl (fun h => ?_) (fun h => ?_)
      | refine WpA.block ?_
      | refine WpA.exit ?_
      | refine WpOps.nil ?_
      | refine WpA.ret ?_
      | refine WpA.skip ?_
      | refine WpA.condT rfl ?_
      | refine WpA.condF rfl ?_
      | refine WpA.cond _ rfl (fun h => ?_) (fun h => ?_)
      | refine WpA.drawC (by kernel_rfl) (by kernel_rfl) ?_
      | refine LexH.op0 _ rfl rfl rfl rfl rfl (fun _ => rfl) ?_
      | refine LexH.op1 _ rfl rfl rfl rfl rfl rfl ?_
      | refine LexH.load4 _ rfl rfl rfl rfl rfl rfl (by simp) rfl rfl rfl rfl ?_
      | refine LexH.skip rfl rfl rfl ?_
      | refine LexH.build _ rfl rfl rfl rfl rfl rfl ?_
      | refine LexH.buildSlice _ rfl rfl rfl rfl rfl rfl rfl rfl rfl rfl rfl rfl ?_
      | refine LexH.store rfl rfl rfl rfl rfl rfl rfl rfl rfl rfl rfl ?_
      | refine LexH.sh _ rfl rfl rfl rfl rfl rfl ?_
      | refine LexH.call rfl rfl rfl rfl rfl rfl (by exact ih i hi _) ?_
      | refine LexH.call0 rfl rfl rfl rfl rfl rfl (fun _ => by exact ih i hi _) ?_
      | refine LexH.gsplit _ rfl rfl rfl (fun h => ?_) (fun h => ?_)
      | refine LexH.nil ?_
    refine ⟨trivial, ⟨rfl, rfl, rfl, congrArg (AV.int .i64) (wrap64 (by omega) (by omega)), trivial⟩, ?_⟩
    rw [← cellsL_take hi]
    rfl
  · have hlt : decide (((is.length : Nat) : Int) < ((Oct.cellsL is).length : Nat)) = false := by rw [cellsL_length]; simp
    repeat' first
      | refine WpA.seq ?_
      | refine WpA.region ?_
      | refine WpOps.op _ rfl rfl rfl rfl rfl ?_
      | refine WpOps.box _ rfl rfl rfl rfl rfl ?_
      | refine WpOps.alloc _ rfl rfl rfl rfl rfl rfl ?_
      | refine WpOps.store rfl rfl rfl rfl rfl rfl rfl rfl rfl rfl ?_
      | refine WpOps.skip rfl rfl rfl ?_
      | refine WpOps.build _ rfl rfl rfl rfl rfl ?_
      | refine WpOps.sh _ rfl rfl rfl rfl rfl ?_
      | refine WpOps.gsplit _ rfl rfl rfl (fun h => ?_) (fun h => ?_)
      | refine WpA.block ?_
      | refine WpA.exit ?_
      | refine WpOps.nil ?_
      | refine WpA.ret ?_
      | refine WpA.skip ?_
      | refine WpA.condT rfl ?_
      | refine WpA.condF rfl ?_
      | refine WpA.drawC (by kernel_rfl) (by kernel_rfl) ?_
      | refine LexH.op0 _ rfl rfl rfl rfl rfl (fun _ => rfl) ?_
      | refine LexH.op1 _ rfl rfl rfl rfl rfl rfl ?_
      | refine LexH.load4 _ rfl rfl rfl rfl rfl rfl (by simp) rfl rfl rfl rfl ?_
      | refine LexH.skip rfl rfl rfl ?_
      | refine LexH.build _ rfl rfl rfl rfl rfl rfl ?_
      | refine LexH.buildSlice _ rfl rfl rfl rfl rfl rfl rfl rfl rfl rfl rfl rfl ?_
      | refine LexH.store rfl rfl rfl rfl rfl rfl rfl rfl rfl rfl rfl ?_
      | refine LexH.sh _ rfl rfl rfl rfl rfl rfl ?_
      | refine LexH.gsplit _ rfl rfl rfl (fun h => ?_) (fun h => ?_)
      | refine LexH.nil ?_
    refine WpA.cond false (congrArg AV.bool hlt) (fun h => by cases h) (fun h => ?_)
    repeat' first
      | refine WpA.seq ?_
      | refine WpA.region ?_
      | refine WpOps.op _ rfl rfl rfl rfl rfl ?_
      | refine WpOps.box _ rfl rfl rfl rfl rfl ?_
      | refine WpOps.alloc _ rfl rfl rfl rfl rfl rfl ?_
      | refine WpOps.store rfl rfl rfl rfl rfl rfl rfl rfl rfl rfl ?_
      | refine WpOps.skip rfl rfl rfl ?_
      | refine WpOps.build _ rfl rfl rfl rfl rfl ?_
      | refine WpOps.sh _ rfl rfl rfl rfl rfl ?_
      | refine WpOps.gsplit _ rfl rfl rfl (fun h => ?_) (fun h => ?_)
      | refine WpA.block ?_
      | refine WpA.exit ?_
      | refine WpOps.nil ?_
      | refine WpA.ret ?_
      | refine WpA.skip ?_
      | refine WpA.condT rfl ?_
      | refine WpA.condF rfl ?_
      | refine WpA.cond _ rfl (fun h => ?_) (fun h => ?_)
      | refine WpA.draw (by kernel_rfl) ?_
      | refine LexA.op _ rfl rfl rfl rfl rfl ?_
      | refine LexA.skip rfl rfl rfl ?_
      | refine LexA.build _ rfl rfl rfl rfl rfl ?_
      | refine LexA.sh _ rfl rfl rfl rfl rfl ?_
      | refine LexA.gsplit _ rfl rfl rfl (fun h => ?_) (fun h => ?_)
      | refine LexA.nil ?_
    refine retK.sub (.inr rfl) rfl (TrOk.refl H) (L := _) rfl rfl (Sub.agg (vs := octA t [] (Oct.cellsL is)) ⟨Sub.refl _, Sub.empty, ?_, trivial⟩) (Oct.bdA _ (.mk t [] is)) ⟨rfl, rfl⟩
    rw [List.take_length]
    exact Sub.untag
end Go.Gp.Try

/- The reference's octets: Put. -/
namespace Go.Gp.Try
open Go.Proofs
set_option linter.unusedVariables false
set_option linter.unusedSimpArgs false
set_option maxHeartbeats 4000000
set_option maxRecDepth 100000

theorem bytes_one (bs : List UInt8) : ∀ y ∈ bs.map byteRow, ∀ a ∈ y, a.one = true := by
  intro y hy a ha
  obtain ⟨b, _, rfl⟩ := List.mem_map.1 hy
  have ha' := List.mem_singleton.1 ha
  subst ha'
  rfl

theorem ofNat_mod (n m : Nat) (h : n % 256 = m % 256) : UInt8.ofNat n = UInt8.ofNat m := UInt8.toNat_inj.1 (by rw [UInt8.toNat_ofNat', UInt8.toNat_ofNat']; exact h)

theorem rLen_lenB {n : Nat} (h : n < 16777216) : rLen n = lenB n := by
  unfold rLen lenB
  by_cases a1 : n < 128
  · rw [if_pos a1, if_pos a1]
  · rw [if_neg a1, if_neg a1]
    have b0 : bitLen n = bitLen (n / 2 ^ 7) + 7 := bitLen_shift (k := 7) (by omega)
    have b2 : 0 < bitLen (n / 2 ^ 7) := by unfold bitLen; rw [if_neg (by omega)]; omega
    by_cases a2 : n < 256
    · rw [if_pos a2]
      have b1 := bitLen_lt (x := n) (k := 8) (by omega)
      have hw : wide n = 2 := by unfold wide; rw [if_neg a1]; omega
      rw [hw]
      show [129, UInt8.ofNat n] = [UInt8.ofNat 129, UInt8.ofNat (n / 1)]
      rw [Nat.div_one]; rfl
    · rw [if_neg a2]
      have c0 : bitLen n = bitLen (n / 2 ^ 8) + 8 := bitLen_shift (k := 8) (by omega)
      have c2 : 0 < bitLen (n / 2 ^ 8) := by unfold bitLen; rw [if_neg (by omega)]; omega
      by_cases a3 : n < 65536
      · rw [if_pos a3]
        have b1 := bitLen_lt (x := n) (k := 16) (by omega)
        have hw : wide n = 3 := by unfold wide; rw [if_neg a1]; omega
        rw [hw]
        show [130, UInt8.ofNat (n / 256), UInt8.ofNat n] = [UInt8.ofNat 130, UInt8.ofNat (n / 256), UInt8.ofNat (n / 1)]
        rw [Nat.div_one]; rfl
      · rw [if_neg a3]
        have d0 : bitLen n = bitLen (n / 2 ^ 16) + 16 := bitLen_shift (k := 16) (by omega)
        have d2 : 0 < bitLen (n / 2 ^ 16) := by unfold bitLen; rw [if_neg (by omega)]; omega
        have b1 := bitLen_lt (x := n) (k := 24) (by omega)
        have hw : wide n = 4 := by unfold wide; rw [if_neg a1]; omega
        rw [hw]
        show [131, UInt8.ofNat (n / 65536), UInt8.ofNat (n / 256), UInt8.ofNat n] = [UInt8.ofNat 131, UInt8.ofNat (n / 65536), UInt8.ofNat (n / 256), UInt8.ofNat (n / 1)]
        rw [Nat.div_one]; rfl

theorem enc_mk (t : UInt8) (bs : List UInt8) (is : List Oct) : (Oct.mk t bs is).enc = [t] ++ (lenB (bs ++ Oct.encL is).length ++ (bs ++ Oct.encL is)) := by
  rw [List.length_append, encL_length]; rfl

theorem rPut_A : ∀ (o : Oct) (H : List AObj), o.size ≤ 16777216 → CallsA E 31 [.agg o.cells] H (Is H (.sl .no 1 (o.enc.map byteRow)))
  | .mk tg bs is, H, hs => by
    rw [size_mk] at hs
    have hbs : (bs.map byteRow).length = bs.length := List.length_map _
    have hli : is.length ≤ Oct.sizeL is := length_le_sizeL is
    have hcl := cellsL_length is
    have ih : ∀ (i : Nat) (h : i < is.length) (H : List AObj), CallsA E 31 [.agg (is[i]).cells] H (Is H (.sl .no 1 ((is[i]).enc.map byteRow))) := fun i h H => rPut_A is[i] H (by have := size_get h; omega)
    have hfit : (0 + (bs.map byteRow).length) * 1 ≤ 140737488355328 := by rw [hbs]; omega
    refine .enter Try.func31 rfl rfl rfl 35 Try.ntmps31 (Nat.le_of_ble_eq_true rfl) ?_
    repeat' first
      | refine WpA.seq ?_
      | refine WpA.region ?_
      | refine WpOps.op _ rfl rfl rfl rfl rfl ?_
      | refine WpOps.box _ rfl rfl rfl rfl rfl ?_
      | refine WpOps.alloc _ rfl rfl rfl rfl rfl rfl ?_
      | refine WpOps.store rfl rfl rfl rfl rfl rfl rfl rfl rfl rfl ?_
      | refine WpOps.skip rfl rfl rfl ?_
      | refine WpOps.build _ rfl rfl rfl rfl rfl ?_
      | refine WpOps.sh _ rfl rfl rfl rfl rfl ?_
      | (refine WpOps.buildSlice [] rfl rfl rfl rfl rfl rfl rfl rfl rfl rfl rfl ?_)
      | (refine WpOps.appN rfl rfl rfl rfl rfl rfl rfl (fun k h => by cases h) rfl rfl rfl rfl rfl rfl (by exact bytes_one bs) (by exact hfit) ?_)
      | refine WpOps.gsplit _ rfl rfl rfl (fun h => ?_) (fun h => ?_)
      | refine WpA.block ?_
      | refine WpA.exit ?_
      | refine WpOps.nil ?_
      | refine WpA.ret ?_
      | refine WpA.skip ?_
      | refine WpA.condT rfl ?_
      | refine WpA.condF rfl ?_
      | refine WpA.cond _ rfl (fun h => ?_) (fun h => ?_)
      | refine WpA.draw (by kernel_rfl) ?_
      | refine LexA.op _ rfl rfl rfl rfl rfl ?_
      | refine LexA.skip rfl rfl rfl ?_
      | refine LexA.build _ rfl rfl rfl rfl rfl ?_
      | refine LexA.sh _ rfl rfl rfl rfl rfl ?_
      | refine LexA.gsplit _ rfl rfl rfl (fun h => ?_) (fun h => ?_)
      | refine LexA.nil ?_
    refine WpA.loopFor is.length (fun i => [(1, .ptr H.length 0 0), (3, .sl (.row H.length 1) 1 ((bs ++ Oct.encL (is.take i)).map byteRow)), (4, .int .i64 (i : Nat))])
      (fun i => H ++ [.cells (Oct.mk tg bs is).cells, .tail ((bs ++ Oct.encL (is.take i)).map byteRow).length 1]) (fun _ => True) trivial ⟨rfl, ?_, rfl, trivial⟩ ?_ (fun i hi _ => ?_) (fun _ => ?_)
    · rw [List.take_zero, encL_nil, List.append_nil]; rfl
    · rw [List.take_zero, encL_nil, List.append_nil]; rfl
    · have hc : (Oct.cellsL is)[((i : Nat) : Int).toNat]? = some (is[i]).cells := by rw [Int.toNat_natCast]; exact cellsL_get hi
      have hlt : decide (((i : Nat) : Int) < ((Oct.cellsL is).length : Nat)) = true := by rw [cellsL_length]; simp; omega
      have h1 := sizeL_take hi
      have h2 := sizeL_le (is := is) (i + 1)
      have hel := enc_length is[i]
      have htl := encL_length (is.take i)
      have hfit2 : (((bs ++ Oct.encL (is.take i)).map byteRow).length + ((is[i]).enc.map byteRow).length) * 1 ≤ 140737488355328 := by
        rw [List.length_map, List.length_map, List.length_append]; omega
      repeat' first
        | refine WpA.seq ?_
        | refine WpA.region ?_
        | refine WpOps.op _ rfl rfl rfl rfl rfl ?_
        | refine WpOps.box _ rfl rfl rfl rfl rfl ?_
        | refine WpOps.alloc _ rfl rfl rfl rfl rfl rfl ?_
        | refine WpOps.store rfl rfl rfl rfl rfl rfl rfl rfl rfl rfl ?_
        | refine WpOps.skip rfl rfl rfl ?_
        | refine WpOps.build _ rfl rfl rfl rfl rfl ?_
        | refine WpOps.sh _ rfl rfl rfl rfl rfl ?_
        | refine WpOps.gsplit _ rfl rfl rfl (fun h => ?_) (fun h => ?_)
        | refine WpA.block ?_
        | refine WpA.exit ?_
        | refine WpOps.nil ?_
        | refine WpA.ret ?_
        | refine WpA.skip ?_
        | refine WpA.condT rfl ?_
        | refine WpA.condF rfl ?_
        | refine WpA.draw (by kernel_rfl) ?_
        | refine LexA.op _ rfl rfl rfl rfl rfl ?_
        | refine LexA.skip rfl rfl rfl ?_
        | refine LexA.build _ rfl rfl rfl rfl rfl ?_
        | refine LexA.sh _ rfl rfl rfl rfl rfl ?_
        | refine LexA.gsplit _ rfl rfl rfl (fun h => ?_) (fun h => ?_)
        | refine LexA.nil ?_
      refine WpA.cond true (congrArg AV.bool hlt) (fun h => ?_) (fun h => by cases h)
      repeat' first
        | refine WpA.seq ?_
        | refine WpA.region ?_
        | refine WpOps.op _ rfl rfl rfl rfl rfl ?_
        | refine WpOps.box _ rfl rfl rfl rfl rfl ?_
        | refine WpOps.alloc _ rfl rfl rfl rfl rfl rfl ?_
        | refine WpOps.store rfl rfl rfl rfl rfl rfl rfl rfl rfl rfl ?_
        | refine WpOps.skip rfl rfl rfl ?_
        | refine WpOps.build _ rfl rfl rfl rfl rfl ?_
        | refine WpOps.sh _ rfl rfl rfl rfl rfl ?_
        | (refine WpOps.call rfl rfl rfl rfl rfl (by exact ih i hi _) ?_; rintro _ _ ⟨rfl, rfl⟩)
        | (refine WpOps.elem (is[i]).cells rfl rfl rfl rfl rfl rfl rfl rfl rfl (Int.natCast_nonneg i) hc ?_)
        | (refine WpOps.appR rfl rfl rfl rfl rfl rfl rfl (fun k h => by cases h) rfl rfl rfl rfl rfl rfl (by exact bytes_one _) (by exact hfit2) ?_)
        | refine WpOps.gsplit _ rfl rfl rfl (fun h => ?_) (fun h => ?_)
        | refine WpA.block ?_
        | refine WpA.exit ?_
        | refine WpOps.nil ?_
        | refine WpA.ret ?_
        | refine WpA.skip ?_
        | refine WpA.condT rfl ?_
        | refine WpA.condF rfl ?_
        | refine WpA.cond _ rfl (fun h => ?_) (fun h => ?_)
        | refine WpA.draw (by kernel_rfl) ?_
        | refine LexA.op _ rfl rfl rfl rfl rfl ?_
        | refine LexA.skip rfl rfl rfl ?_
        | refine LexA.build _ rfl rfl rfl rfl rfl ?_
        | refine LexA.sh _ rfl rfl rfl rfl rfl ?_
        | refine LexA.call rfl rfl rfl rfl rfl (by exact ih i hi _) ?_
        | refine LexA.gsplit _ rfl rfl rfl (fun h => ?_) (fun h => ?_)
        | refine LexA.nil ?_
      have e : (bs ++ Oct.encL (is.take i)).map byteRow ++ (is[i]).enc.map byteRow = (bs ++ Oct.encL (is.take (i + 1))).map byteRow := by
        rw [encL_take hi, ← List.map_append, List.append_assoc]
      refine ⟨trivial, ⟨rfl, congrArg (AV.sl _ 1) e, congrArg (AV.int .i64) (wrap64 (by omega) (by omega)), trivial⟩, ?_⟩
      rw [← e]
      rfl
    · have hlt : decide (((is.length : Nat) : Int) < ((Oct.cellsL is).length : Nat)) = false := by rw [cellsL_length]; simp
      have htl := encL_length (is.take is.length)
      rw [List.take_length] at htl ⊢
      have hcl2 : (bs ++ Oct.encL is).length = bs.length + Oct.sizeL is := by rw [List.length_append, encL_length]
      have hL : ∀ H, CallsA E 52 [.int .i64 ((((bs ++ Oct.encL is).map byteRow).length : Nat) : Int)] H (Is H (.sl .no 1 ((lenB (bs ++ Oct.encL is).length).map byteRow))) := fun H => by
        rw [List.length_map, ← rLen_lenB (by omega)]; exact rLength_A _ H (by omega)
      have hfit3 : ([byteRow tg].length + ((lenB (bs ++ Oct.encL is).length).map byteRow).length) * 1 ≤ 140737488355328 := by
        have hlb : (lenB (bs ++ Oct.encL is).length).length ≤ 9 := by rw [lenB_length]; exact wide_le _ (by omega)
        rw [List.length_map]; simp only [List.length_cons, List.length_nil]; omega
      have hfit4 : (([byteRow tg] ++ (lenB (bs ++ Oct.encL is).length).map byteRow).length + ((bs ++ Oct.encL is).map byteRow).length) * 1 ≤ 140737488355328 := by
        have hlb : (lenB (bs ++ Oct.encL is).length).length ≤ 9 := by rw [lenB_length]; exact wide_le _ (by omega)
        rw [List.length_append, List.length_map, List.length_map]; simp only [List.length_cons, List.length_nil]; omega
      have hlb : (lenB (bs ++ Oct.encL is).length).length ≤ 9 := by rw [lenB_length]; exact wide_le _ (by omega)
      repeat' first
        | refine WpA.seq ?_
        | refine WpA.region ?_
        | refine WpOps.op _ rfl rfl rfl rfl rfl ?_
        | refine WpOps.box _ rfl rfl rfl rfl rfl ?_
        | refine WpOps.alloc _ rfl rfl rfl rfl rfl rfl ?_
        | refine WpOps.store rfl rfl rfl rfl rfl rfl rfl rfl rfl rfl ?_
        | refine WpOps.skip rfl rfl rfl ?_
        | refine WpOps.build _ rfl rfl rfl rfl rfl ?_
        | refine WpOps.sh _ rfl rfl rfl rfl rfl ?_
        | refine WpOps.gsplit _ rfl rfl rfl (fun h => ?_) (fun h => ?_)
        | refine WpA.block ?_
        | refine WpA.exit ?_
        | refine WpOps.nil ?_
        | refine WpA.ret ?_
        | refine WpA.skip ?_
        | refine WpA.condT rfl ?_
        | refine WpA.condF rfl ?_
        | refine WpA.draw (by kernel_rfl) ?_
        | refine LexA.op _ rfl rfl rfl rfl rfl ?_
        | refine LexA.skip rfl rfl rfl ?_
        | refine LexA.build _ rfl rfl rfl rfl rfl ?_
        | refine LexA.sh _ rfl rfl rfl rfl rfl ?_
        | refine LexA.gsplit _ rfl rfl rfl (fun h => ?_) (fun h => ?_)
        | refine LexA.nil ?_
      refine WpA.cond false (congrArg AV.bool hlt) (fun h => by cases h) (fun h => ?_)
      repeat' first
        | refine WpA.drawI [H.length + 0] [0, 4, 0, 0, 0, 0, 3, 0] (by kernel_rfl) (by kernel_rfl) ?_
        | refine WpA.seq ?_
        | refine WpA.region ?_
        | refine WpOps.op _ rfl rfl rfl rfl rfl ?_
        | refine WpOps.box _ rfl rfl rfl rfl rfl ?_
        | refine WpOps.alloc _ rfl rfl rfl rfl rfl rfl ?_
        | refine WpOps.store rfl rfl rfl rfl rfl rfl rfl rfl rfl rfl ?_
        | refine WpOps.skip rfl rfl rfl ?_
        | refine WpOps.build _ rfl rfl rfl rfl rfl ?_
        | refine WpOps.sh _ rfl rfl rfl rfl rfl ?_
        | (refine WpOps.call rfl rfl rfl rfl rfl (by exact hL _) ?_; rintro _ _ ⟨rfl, rfl⟩)
        | (refine LexH.appN3 rfl rfl rfl rfl rfl rfl rfl rfl (fun k h => by cases h) rfl rfl rfl rfl rfl rfl (by exact bytes_one _) (by exact hfit3) ?_)
        | (refine WpOps.appR rfl rfl rfl rfl rfl rfl rfl (fun k h => by cases h) rfl rfl rfl rfl rfl rfl (by exact bytes_one _) (by exact hfit4) ?_)
        | refine WpOps.gsplit _ rfl rfl rfl (fun h => ?_) (fun h => ?_)
        | refine WpA.block ?_
        | refine WpA.exit ?_
        | refine WpOps.nil ?_
        | refine WpA.ret ?_
        | refine WpA.skip ?_
        | refine WpA.condT rfl ?_
        | refine WpA.condF rfl ?_
        | refine WpA.cond _ rfl (fun h => ?_) (fun h => ?_)
        | refine WpA.drawC (by kernel_rfl) (by kernel_rfl) ?_
        | refine LexH.op0 _ rfl rfl rfl rfl rfl (fun _ => rfl) ?_
        | refine LexH.op1 _ rfl rfl rfl rfl rfl rfl ?_
        | refine LexH.load4 _ rfl rfl rfl rfl rfl rfl (by simp) rfl rfl rfl rfl ?_
        | refine LexH.skip rfl rfl rfl ?_
        | refine LexH.build _ rfl rfl rfl rfl rfl rfl ?_
        | refine LexH.buildSlice _ rfl rfl rfl rfl rfl rfl rfl rfl rfl rfl rfl rfl ?_
        | refine LexH.store rfl rfl rfl rfl rfl rfl rfl rfl rfl rfl rfl ?_
        | refine LexH.sh _ rfl rfl rfl rfl rfl rfl ?_
        | refine LexH.call rfl rfl rfl rfl rfl rfl (by exact hL _) ?_
        | refine LexH.call0 rfl rfl rfl rfl rfl rfl (fun _ => by exact hL _) ?_
        | refine LexH.gsplit _ rfl rfl rfl (fun h => ?_) (fun h => ?_)
        | refine LexH.nil ?_
      refine retK.sub (.inr rfl) rfl (TrOk.refl H) (L := _) rfl rfl (r := .sl .no 1 ((Oct.mk tg bs is).enc.map byteRow)) ?_ (bd_slB _) ⟨rfl, rfl⟩
      have he : (Oct.mk tg bs is).enc.map byteRow = [byteRow tg] ++ (lenB (bs ++ Oct.encL is).length).map byteRow ++ (bs ++ Oct.encL is).map byteRow := by
        rw [enc_mk, List.map_append, List.map_append, ← List.append_assoc]; rfl
      rw [he]
      exact Sub.untag
termination_by o => SizeOf.sizeOf o
decreasing_by exact sizeOf_get h
end Go.Gp.Try
