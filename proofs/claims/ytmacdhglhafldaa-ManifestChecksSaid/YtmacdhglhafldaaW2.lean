/- The manifest's checks: names. -/
import Derived.Test.YtmacdhglhafldaaW1
namespace Go.Gp.Try
open Go.Proofs
set_option linter.unusedVariables false
set_option linter.unusedSimpArgs false

def classOf (n : Nat) : Int :=
  if 97 ≤ n ∧ n ≤ 122 then 1 else if 65 ≤ n ∧ n ≤ 90 then 2 else if 48 ≤ n ∧ n ≤ 57 then 1 else if n = 45 then 3 else if n = 95 then 4 else if n = 46 then 5 else 0
def classCells : List AV := (List.range 256).map fun n => .int .u8 (classOf n)

theorem class_A (H : List AObj) : CallsA E 45 [] H (Is H (.agg classCells)) := by
  refine .enter Try.func45 rfl rfl rfl 2 Try.ntmps45 (Nat.le_of_ble_eq_true rfl) ?_
  refine WpA.seq ?_
  refine WpA.region ?_
  refine WpOps.alloc _ rfl rfl rfl rfl rfl rfl ?_
  refine WpOps.nil ?_
  refine WpA.seq ?_
  refine WpA.region ?_
  refine WpOps.build classCells rfl rfl rfl rfl (by kernel_rfl) ?_
  refine WpOps.store rfl rfl rfl rfl rfl rfl rfl (by kernel_rfl) (by kernel_rfl) (by kernel_rfl) ?_
  refine WpOps.nil ?_
  refine WpA.ret ?_
  refine retK.ok (show resL _ _ _ _ = some [.agg classCells] from ?_) rfl ?_ ?_
  · kernel_rfl
  · kernel_rfl
  · refine .agg fun e he => ?_
    obtain ⟨n, _, rfl⟩ := List.mem_map.1 he
    exact .int

theorem class_get (b : UInt8) : classCells[b.toNat]? = some (.int .u8 (classOf b.toNat)) := by
  have := b.toNat_lt
  rw [classCells, List.getElem?_map, List.getElem?_range (by omega)]
  rfl

theorem class_ok (b : UInt8) : (classOf b.toNat == 0) = !okName b := by
  have h : okName b = (((decide (97 ≤ b.toNat) && decide (b.toNat ≤ 122)) || (decide (48 ≤ b.toNat) && decide (b.toNat ≤ 57))) || (decide (65 ≤ b.toNat) && decide (b.toNat ≤ 90)) || b.toNat == 45 || b.toNat == 95 || b.toNat == 46) := rfl
  rw [h]
  generalize b.toNat = n
  rw [Bool.eq_iff_iff]
  unfold classOf
  simp
  repeat' split
  all_goals simp <;> omega

theorem Name_A (s : List UInt8) (H : List AObj) : CallsA E 23 [.str s] H (Is H (.bool (name s))) := by
  refine .enter Try.func23 rfl rfl rfl 32 Try.ntmps23 (Nat.le_of_ble_eq_true rfl) ?_
  repeat' first
    | refine WpA.seq ?_
    | refine WpA.region ?_
    | refine WpOps.op _ rfl rfl rfl rfl rfl ?_
    | refine WpOps.box _ rfl rfl rfl rfl rfl ?_
    | refine WpOps.alloc _ rfl rfl rfl rfl rfl rfl ?_
    | refine WpOps.store rfl rfl rfl rfl rfl rfl rfl rfl rfl rfl ?_
    | refine WpOps.skip rfl rfl rfl ?_
    | refine WpOps.build _ rfl rfl rfl rfl rfl ?_
    | refine WpOps.sh _ rfl rfl rfl rfl rfl ?_
    | refine WpOps.gsplit _ rfl rfl rfl (fun h => ?_) (fun h => ?_)
    | refine WpA.block ?_
    | refine WpA.exit ?_
    | refine WpOps.nil ?_
    | refine WpA.ret ?_
    | refine WpA.skip ?_
    | refine WpA.condT rfl ?_
    | refine WpA.condF rfl ?_
    | refine WpA.cond _ rfl (fun h => ?_) (fun h => ?_)
    | refine WpA.draw (by kernel_rfl) ?_
    | refine LexA.op _ rfl rfl rfl rfl rfl ?_
    | refine LexA.skip rfl rfl rfl ?_
    | refine LexA.build _ rfl rfl rfl rfl rfl ?_
    | refine LexA.sh _ rfl rfl rfl rfl rfl ?_
    | refine LexA.gsplit _ rfl rfl rfl (fun h => ?_) (fun h => ?_)
    | refine LexA.nil ?_
  · refine retK.ok rfl rfl (congrArg AV.bool ?_) .bool
    simp at *
    simp [name]; omega
  · refine retK.ok rfl rfl (congrArg AV.bool ?_) .bool
    simp at *
    simp [name]; omega
  · refine retK.ok rfl rfl (congrArg AV.bool ?_) .bool
    simp at *
    simp [name, *]
  · refine retK.ok rfl rfl (congrArg AV.bool ?_) .bool
    simp at *
    simp [name, *]
  · rename_i h1 h2 h3
    simp at h1 h2 h3 h
    refine WpA.loopS (α := Nat) (fun i => [(0, .str s), (21, .int .i64 s.length), (22, .int .i64 i)]) (fun _ => H ++ []) (fun i => i ≤ s.length ∧ nameOk s 0 = nameOk s i) (fun i => s.length - i) 0 ⟨Nat.zero_le _, rfl⟩ ⟨rfl, rfl, rfl, trivial⟩ rfl ?_
    rintro i ⟨hi, hn⟩
    repeat' first
      | refine WpA.seq ?_
      | refine WpA.region ?_
      | refine WpOps.op _ rfl rfl rfl rfl rfl ?_
      | refine WpOps.box _ rfl rfl rfl rfl rfl ?_
      | refine WpOps.alloc _ rfl rfl rfl rfl rfl rfl ?_
      | refine WpOps.store rfl rfl rfl rfl rfl rfl rfl rfl rfl rfl ?_
      | refine WpOps.skip rfl rfl rfl ?_
      | refine WpOps.build _ rfl rfl rfl rfl rfl ?_
      | refine WpOps.sh _ rfl rfl rfl rfl rfl ?_
      | (refine WpOps.call rfl rfl rfl rfl rfl (by exact class_A _) ?_; rintro _ _ ⟨rfl, rfl⟩)
      | refine WpOps.gsplit _ rfl rfl rfl (fun h => ?_) (fun h => ?_)
      | refine WpA.block ?_
      | refine WpA.exit ?_
      | refine WpOps.nil ?_
      | refine WpA.ret ?_
      | refine WpA.skip ?_
      | refine WpA.condT rfl ?_
      | refine WpA.condF rfl ?_
      | refine WpA.cond _ rfl (fun h => ?_) (fun h => ?_)
      | refine WpA.draw (by kernel_rfl) ?_
      | refine LexA.op _ rfl rfl rfl rfl rfl ?_
      | refine LexA.skip rfl rfl rfl ?_
      | refine LexA.build _ rfl rfl rfl rfl rfl ?_
      | refine LexA.sh _ rfl rfl rfl rfl rfl ?_
      | refine LexA.call rfl rfl rfl rfl rfl (by exact class_A _) ?_
      | refine LexA.gsplit _ rfl rfl rfl (fun h => ?_) (fun h => ?_)
      | refine LexA.nil ?_
    · simp at h
      have hlt : i < s.length := h
      have hd := nameOk_step hlt
      refine LexA.indexS s[i] rfl rfl rfl rfl rfl rfl rfl (Int.natCast_nonneg i) (by simp) ?_
      refine LexA.indexA (.int .u8 (classOf s[i].toNat)) rfl rfl rfl rfl rfl rfl rfl (Int.natCast_nonneg _) ?_ ?_ ?_
      · have := s[i].toNat_lt; omega
      · show classCells[((s[i].toNat : Int)).toNat * 1]? = _
        rw [Int.toNat_natCast, Nat.mul_one]
        exact class_get _
      repeat' first
        | refine WpA.seq ?_
        | refine WpA.region ?_
        | refine WpOps.op _ rfl rfl rfl rfl rfl ?_
        | refine WpOps.box _ rfl rfl rfl rfl rfl ?_
        | refine WpOps.alloc _ rfl rfl rfl rfl rfl rfl ?_
        | refine WpOps.store rfl rfl rfl rfl rfl rfl rfl rfl rfl rfl ?_
        | refine WpOps.skip rfl rfl rfl ?_
        | refine WpOps.build _ rfl rfl rfl rfl rfl ?_
        | refine WpOps.sh _ rfl rfl rfl rfl rfl ?_
        | (refine WpOps.call rfl rfl rfl rfl rfl (by exact class_A _) ?_; rintro _ _ ⟨rfl, rfl⟩)
        | refine WpOps.gsplit _ rfl rfl rfl (fun h => ?_) (fun h => ?_)
        | refine WpA.block ?_
        | refine WpA.exit ?_
        | refine WpOps.nil ?_
        | refine WpA.ret ?_
        | refine WpA.skip ?_
        | refine WpA.condT rfl ?_
        | refine WpA.condF rfl ?_
        | refine WpA.cond _ rfl (fun h => ?_) (fun h => ?_)
        | refine WpA.draw (by kernel_rfl) ?_
        | refine LexA.op _ rfl rfl rfl rfl rfl ?_
        | refine LexA.skip rfl rfl rfl ?_
        | refine LexA.build _ rfl rfl rfl rfl rfl ?_
        | refine LexA.sh _ rfl rfl rfl rfl rfl ?_
        | refine LexA.call rfl rfl rfl rfl rfl (by exact class_A _) ?_
        | refine LexA.gsplit _ rfl rfl rfl (fun h => ?_) (fun h => ?_)
        | refine LexA.nil ?_
      · have hc : okName s[i] = false := by have := class_ok s[i]; rw [h] at this; simpa using this.symm
        refine retK.ok rfl rfl (congrArg AV.bool ?_) .bool
        rw [name, hn, hd, hc]; simp
      · have hc : okName s[i] = true := by have := class_ok s[i]; rw [h] at this; simpa using this.symm
        refine ⟨i + 1, ⟨hlt, ?_⟩, by omega, ⟨rfl, rfl, congrArg (AV.int .i64) (wrap64 (by omega) (by omega)), trivial⟩, rfl⟩
        rw [hn, hd, hc]; simp
    · refine retK.ok rfl rfl (congrArg AV.bool ?_) .bool
      simp at h
      rw [name, hn, nameOk, List.drop_eq_nil_of_le (by omega)]
      simp; exact ⟨⟨⟨by omega, by omega⟩, h3⟩, by assumption⟩
end Go.Gp.Try
