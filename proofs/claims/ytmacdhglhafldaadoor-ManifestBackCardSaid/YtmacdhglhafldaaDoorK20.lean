/- Part of a proof: GdO1, GdO2, GdO3, GdO4, GdO5, GdO6 -/
import Derived.Test.YtmacdhglhafldaaDoorK9
import Derived.Test.YtmacdhglhafldaaDoorK10
import Derived.Test.YtmacdhglhafldaaDoorK19
import Derived.KernelRfl

/- The octet codec: the walks. -/
namespace Go.Gp.Tryd
open Go.Proofs
set_option linter.unusedVariables false
set_option linter.unusedSimpArgs false
set_option maxHeartbeats 4000000

theorem must_A (H : List AObj) : CallsA E 77 [.bool true] H (Is H (.tup [])) := by
  refine .enter Tryd.func77 rfl rfl rfl 6 Tryd.ntmps77 (Nat.le_of_ble_eq_true rfl) ?_
  repeat' first
    | refine WpA.seq ?_
    | refine WpA.region ?_
    | refine WpOps.op _ rfl rfl rfl rfl rfl ?_
    | refine WpOps.box _ rfl rfl rfl rfl rfl ?_
    | refine WpOps.alloc _ rfl rfl rfl rfl rfl rfl ?_
    | refine WpOps.store rfl rfl rfl rfl rfl rfl rfl rfl rfl rfl ?_
    | refine WpOps.skip rfl rfl rfl ?_
    | refine WpOps.build _ rfl rfl rfl rfl rfl ?_
    | refine WpOps.sh _ rfl rfl rfl rfl rfl ?_
    | refine WpOps.gsplit _ rfl rfl rfl (fun h => ?_) (fun h => ?_)
    | refine WpA.block ?_
    | refine WpA.exit ?_
    | refine WpOps.nil ?_
    | refine WpA.ret ?_
    | refine WpA.skip ?_
    | refine WpA.condT rfl ?_
    | refine WpA.condF rfl ?_
    | refine WpA.cond _ rfl (fun h => ?_) (fun h => ?_)
    | refine WpA.draw (by kernel_rfl) ?_
    | refine LexA.op _ rfl rfl rfl rfl rfl ?_
    | refine LexA.skip rfl rfl rfl ?_
    | refine LexA.build _ rfl rfl rfl rfl rfl ?_
    | refine LexA.sh _ rfl rfl rfl rfl rfl ?_
    | refine LexA.gsplit _ rfl rfl rfl (fun h => ?_) (fun h => ?_)
    | refine LexA.nil ?_
  exact retK.ok rfl rfl rfl (.tup (by simp))

theorem mustNot_A (H : List AObj) : CallsA E 77 [.bool false] H (Dies H (.iface 129 (.agg []))) := by
  refine .enter Tryd.func77 rfl rfl rfl 6 Tryd.ntmps77 (Nat.le_of_ble_eq_true rfl) ?_
  repeat' first
    | refine WpA.seq ?_
    | refine WpA.region ?_
    | refine WpOps.op _ rfl rfl rfl rfl rfl ?_
    | refine WpOps.box _ rfl rfl rfl rfl rfl ?_
    | refine WpOps.alloc _ rfl rfl rfl rfl rfl rfl ?_
    | refine WpOps.store rfl rfl rfl rfl rfl rfl rfl rfl rfl rfl ?_
    | refine WpOps.skip rfl rfl rfl ?_
    | refine WpOps.build _ rfl rfl rfl rfl rfl ?_
    | refine WpOps.sh _ rfl rfl rfl rfl rfl ?_
    | refine WpOps.iface _ rfl rfl rfl rfl rfl (by intro h; cases h) rfl ?_
    | refine WpOps.panic rfl rfl rfl ?_
    | refine WpOps.gsplit _ rfl rfl rfl (fun h => ?_) (fun h => ?_)
    | refine WpA.block ?_
    | refine WpA.exit ?_
    | refine WpOps.nil ?_
    | refine WpA.ret ?_
    | refine WpA.skip ?_
    | refine WpA.condT rfl ?_
    | refine WpA.condF rfl ?_
    | refine WpA.cond _ rfl (fun h => ?_) (fun h => ?_)
    | refine WpA.draw (by kernel_rfl) ?_
    | refine LexA.op _ rfl rfl rfl rfl rfl ?_
    | refine LexA.skip rfl rfl rfl ?_
    | refine LexA.build _ rfl rfl rfl rfl rfl ?_
    | refine LexA.sh _ rfl rfl rfl rfl rfl ?_
    | refine LexA.gsplit _ rfl rfl rfl (fun h => ?_) (fun h => ?_)
    | refine LexA.nil ?_
  exact retK.dies rfl (.iface (.agg (by simp)))

/-- How many bits a number has. -/
def bitLen (x : Nat) : Nat := if x = 0 then 0 else Nat.log2 x + 1

theorem bitLen_shift {x k : Nat} (h : 2 ^ k ≤ x) : bitLen x = bitLen (x / 2 ^ k) + k := by
  have hp : 0 < 2 ^ k := Nat.two_pow_pos k
  have h1 : 0 < x / 2 ^ k := Nat.div_pos h hp
  have hx : x ≠ 0 := by omega
  have hl : Nat.log2 x = Nat.log2 (x / 2 ^ k) + k := by
    rw [Nat.log2_eq_iff hx]
    have h2 := Nat.log2_self_le (n := x / 2 ^ k) (by omega)
    have h3 := Nat.lt_log2_self (n := x / 2 ^ k)
    constructor
    · rw [Nat.pow_add]
      calc 2 ^ Nat.log2 (x / 2 ^ k) * 2 ^ k ≤ x / 2 ^ k * 2 ^ k := Nat.mul_le_mul_right _ h2
        _ ≤ x := Nat.div_mul_le_self _ _
    · rw [show Nat.log2 (x / 2 ^ k) + k + 1 = (Nat.log2 (x / 2 ^ k) + 1) + k from by omega, Nat.pow_add]
      exact (Nat.div_lt_iff_lt_mul hp).1 h3
  unfold bitLen
  rw [if_neg hx, if_neg (by omega), hl]
  omega

def lenTab : List UInt8 := (List.range 256).map fun y => UInt8.ofNat (bitLen y)

theorem lenTab_get {y : Nat} (h : y < 256) : lenTab[((y : Nat) : Int).toNat]? = some (UInt8.ofNat (bitLen y)) := by
  rw [Int.toNat_natCast, lenTab, List.getElem?_map, List.getElem?_range h]
  rfl

theorem bitLen_lt {x k : Nat} (h : x < 2 ^ k) : bitLen x ≤ k := by
  unfold bitLen
  split
  · omega
  · rename_i hx
    have := (Nat.log2_lt hx).2 h
    omega

theorem fdiv_nat (x k : Nat) : ((x : Int)).fdiv (2 ^ k) = ((x / 2 ^ k : Nat) : Int) := by
  have : ((2 : Int) ^ k) = ((2 ^ k : Nat) : Int) := by simp
  rw [this, Int.fdiv_eq_ediv_of_nonneg _ (Int.natCast_nonneg _)]
  rfl

theorem m32 : min 32 IntKind.u64.bits = 32 := rfl
theorem m16 : min 16 IntKind.u64.bits = 16 := rfl
theorem m8 : min 8 IntKind.u64.bits = 8 := rfl
theorem wrapu8 {x : Int} (h1 : 0 ≤ x) (h2 : x < 256) : IntKind.u8.wrap x = x := by
  simp only [IntKind.wrap, IntKind.bits, IntKind.signed]
  simp
  omega

theorem Len64_A (x : Nat) (H : List AObj) (hx : x < 18446744073709551616) : CallsA E 71 [.int .u64 x] H (Is H (.int .i64 (bitLen x))) := by
  refine .enter Tryd.func71 rfl rfl rfl 25 Tryd.ntmps71 (Nat.le_of_ble_eq_true rfl) ?_
  repeat' first
    | refine WpA.seq ?_
    | refine WpA.region ?_
    | refine WpOps.op _ rfl rfl rfl rfl rfl ?_
    | refine WpOps.box _ rfl rfl rfl rfl rfl ?_
    | refine WpOps.alloc _ rfl rfl rfl rfl rfl rfl ?_
    | refine WpOps.store rfl rfl rfl rfl rfl rfl rfl rfl rfl rfl ?_
    | refine WpOps.skip rfl rfl rfl ?_
    | refine WpOps.build _ rfl rfl rfl rfl rfl ?_
    | refine WpOps.sh _ rfl rfl rfl rfl rfl ?_
    | refine WpOps.gsplit _ rfl rfl rfl (fun h => ?_) (fun h => ?_)
    | refine WpA.block ?_
    | refine WpA.exit ?_
    | refine WpOps.nil ?_
    | refine WpA.ret ?_
    | refine WpA.skip ?_
    | refine WpA.condT rfl ?_
    | refine WpA.condF rfl ?_
    | refine WpA.cond _ rfl (fun h => ?_) (fun h => ?_)
    | refine WpA.draw (by kernel_rfl) ?_
    | refine LexA.op _ rfl rfl rfl rfl rfl ?_
    | refine LexA.skip rfl rfl rfl ?_
    | refine LexA.build _ rfl rfl rfl rfl rfl ?_
    | refine LexA.sh _ rfl rfl rfl rfl rfl ?_
    | refine LexA.gsplit _ rfl rfl rfl (fun h => ?_) (fun h => ?_)
    | refine LexA.nil ?_
  · simp only [m32, m16, m8, fdiv_nat, decide_eq_true_eq, decide_eq_false_iff_not] at *
    have hlt : x / 2 ^ 32 / 2 ^ 16 / 2 ^ 8 < 256 := by omega
    have hs : bitLen x = bitLen (x / 2 ^ 32 / 2 ^ 16 / 2 ^ 8) + 56 := by rw [bitLen_shift (x := x) (k := 32) (by omega), bitLen_shift (x := x / 2 ^ 32) (k := 16) (by omega), bitLen_shift (x := x / 2 ^ 32 / 2 ^ 16) (k := 8) (by omega)]
    have h8 := bitLen_lt (x := x / 2 ^ 32 / 2 ^ 16 / 2 ^ 8) (k := 8) hlt
    refine WpOps.indexS (s := lenTab) (UInt8.ofNat (bitLen (x / 2 ^ 32 / 2 ^ 16 / 2 ^ 8))) rfl rfl rfl rfl rfl (by kernel_rfl) rfl ?_ ?_ ?_
    · show 0 ≤ IntKind.u8.wrap ((x / 2 ^ 32 / 2 ^ 16 / 2 ^ 8 : Nat) : Int)
      rw [wrapu8 (by omega) (by omega)]; omega
    · show lenTab[(IntKind.u8.wrap ((x / 2 ^ 32 / 2 ^ 16 / 2 ^ 8 : Nat) : Int)).toNat]? = _
      rw [wrapu8 (by omega) (by omega)]; exact lenTab_get hlt
    repeat' first
      | refine WpA.seq ?_
      | refine WpA.region ?_
      | refine WpOps.op _ rfl rfl rfl rfl rfl ?_
      | refine WpOps.box _ rfl rfl rfl rfl rfl ?_
      | refine WpOps.alloc _ rfl rfl rfl rfl rfl rfl ?_
      | refine WpOps.store rfl rfl rfl rfl rfl rfl rfl rfl rfl rfl ?_
      | refine WpOps.skip rfl rfl rfl ?_
      | refine WpOps.build _ rfl rfl rfl rfl rfl ?_
      | refine WpOps.sh _ rfl rfl rfl rfl rfl ?_
      | refine WpOps.gsplit _ rfl rfl rfl (fun h => ?_) (fun h => ?_)
      | refine WpA.block ?_
      | refine WpA.exit ?_
      | refine WpOps.nil ?_
      | refine WpA.ret ?_
      | refine WpA.skip ?_
      | refine WpA.condT rfl ?_
      | refine WpA.condF rfl ?_
      | refine WpA.cond _ rfl (fun h => ?_) (fun h => ?_)
      | refine WpA.draw (by kernel_rfl) ?_
      | refine LexA.op _ rfl rfl rfl rfl rfl ?_
      | refine LexA.skip rfl rfl rfl ?_
      | refine LexA.build _ rfl rfl rfl rfl rfl ?_
      | refine LexA.sh _ rfl rfl rfl rfl rfl ?_
      | refine LexA.gsplit _ rfl rfl rfl (fun h => ?_) (fun h => ?_)
      | refine LexA.nil ?_
    refine retK.ok rfl rfl (congrArg (AV.int .i64) ?_) .int
    show IntKind.i64.wrap (56 + IntKind.i64.wrap ((UInt8.ofNat (bitLen (x / 2 ^ 32 / 2 ^ 16 / 2 ^ 8))).toNat : Int)) = _
    rw [hs, UInt8.toNat_ofNat', Nat.mod_eq_of_lt (by omega), wrap64 (x := ((bitLen (x / 2 ^ 32 / 2 ^ 16 / 2 ^ 8) : Nat) : Int)) (by omega) (by omega), wrap64 (by omega) (by omega)]
    omega
  · simp only [m32, m16, m8, fdiv_nat, decide_eq_true_eq, decide_eq_false_iff_not] at *
    have hlt : x / 2 ^ 32 / 2 ^ 16 < 256 := by omega
    have hs : bitLen x = bitLen (x / 2 ^ 32 / 2 ^ 16) + 48 := by rw [bitLen_shift (x := x) (k := 32) (by omega), bitLen_shift (x := x / 2 ^ 32) (k := 16) (by omega)]
    have h8 := bitLen_lt (x := x / 2 ^ 32 / 2 ^ 16) (k := 8) hlt
    refine WpOps.indexS (s := lenTab) (UInt8.ofNat (bitLen (x / 2 ^ 32 / 2 ^ 16))) rfl rfl rfl rfl rfl (by kernel_rfl) rfl ?_ ?_ ?_
    · show 0 ≤ IntKind.u8.wrap ((x / 2 ^ 32 / 2 ^ 16 : Nat) : Int)
      rw [wrapu8 (by omega) (by omega)]; omega
    · show lenTab[(IntKind.u8.wrap ((x / 2 ^ 32 / 2 ^ 16 : Nat) : Int)).toNat]? = _
      rw [wrapu8 (by omega) (by omega)]; exact lenTab_get hlt
    repeat' first
      | refine WpA.seq ?_
      | refine WpA.region ?_
      | refine WpOps.op _ rfl rfl rfl rfl rfl ?_
      | refine WpOps.box _ rfl rfl rfl rfl rfl ?_
      | refine WpOps.alloc _ rfl rfl rfl rfl rfl rfl ?_
      | refine WpOps.store rfl rfl rfl rfl rfl rfl rfl rfl rfl rfl ?_
      | refine WpOps.skip rfl rfl rfl ?_
      | refine WpOps.build _ rfl rfl rfl rfl rfl ?_
      | refine WpOps.sh _ rfl rfl rfl rfl rfl ?_
      | refine WpOps.gsplit _ rfl rfl rfl (fun h => ?_) (fun h => ?_)
      | refine WpA.block ?_
      | refine WpA.exit ?_
      | refine WpOps.nil ?_
      | refine WpA.ret ?_
      | refine WpA.skip ?_
      | refine WpA.condT rfl ?_
      | refine WpA.condF rfl ?_
      | refine WpA.cond _ rfl (fun h => ?_) (fun h => ?_)
      | refine WpA.draw (by kernel_rfl) ?_
      | refine LexA.op _ rfl rfl rfl rfl rfl ?_
      | refine LexA.skip rfl rfl rfl ?_
      | refine LexA.build _ rfl rfl rfl rfl rfl ?_
      | refine LexA.sh _ rfl rfl rfl rfl rfl ?_
      | refine LexA.gsplit _ rfl rfl rfl (fun h => ?_) (fun h => ?_)
      | refine LexA.nil ?_
    refine retK.ok rfl rfl (congrArg (AV.int .i64) ?_) .int
    show IntKind.i64.wrap (48 + IntKind.i64.wrap ((UInt8.ofNat (bitLen (x / 2 ^ 32 / 2 ^ 16))).toNat : Int)) = _
    rw [hs, UInt8.toNat_ofNat', Nat.mod_eq_of_lt (by omega), wrap64 (x := ((bitLen (x / 2 ^ 32 / 2 ^ 16) : Nat) : Int)) (by omega) (by omega), wrap64 (by omega) (by omega)]
    omega
  · simp only [m32, m16, m8, fdiv_nat, decide_eq_true_eq, decide_eq_false_iff_not] at *
    have hlt : x / 2 ^ 32 / 2 ^ 8 < 256 := by omega
    have hs : bitLen x = bitLen (x / 2 ^ 32 / 2 ^ 8) + 40 := by rw [bitLen_shift (x := x) (k := 32) (by omega), bitLen_shift (x := x / 2 ^ 32) (k := 8) (by omega)]
    have h8 := bitLen_lt (x := x / 2 ^ 32 / 2 ^ 8) (k := 8) hlt
    refine WpOps.indexS (s := lenTab) (UInt8.ofNat (bitLen (x / 2 ^ 32 / 2 ^ 8))) rfl rfl rfl rfl rfl (by kernel_rfl) rfl ?_ ?_ ?_
    · show 0 ≤ IntKind.u8.wrap ((x / 2 ^ 32 / 2 ^ 8 : Nat) : Int)
      rw [wrapu8 (by omega) (by omega)]; omega
    · show lenTab[(IntKind.u8.wrap ((x / 2 ^ 32 / 2 ^ 8 : Nat) : Int)).toNat]? = _
      rw [wrapu8 (by omega) (by omega)]; exact lenTab_get hlt
    repeat' first
      | refine WpA.seq ?_
      | refine WpA.region ?_
      | refine WpOps.op _ rfl rfl rfl rfl rfl ?_
      | refine WpOps.box _ rfl rfl rfl rfl rfl ?_
      | refine WpOps.alloc _ rfl rfl rfl rfl rfl rfl ?_
      | refine WpOps.store rfl rfl rfl rfl rfl rfl rfl rfl rfl rfl ?_
      | refine WpOps.skip rfl rfl rfl ?_
      | refine WpOps.build _ rfl rfl rfl rfl rfl ?_
      | refine WpOps.sh _ rfl rfl rfl rfl rfl ?_
      | refine WpOps.gsplit _ rfl rfl rfl (fun h => ?_) (fun h => ?_)
      | refine WpA.block ?_
      | refine WpA.exit ?_
      | refine WpOps.nil ?_
      | refine WpA.ret ?_
      | refine WpA.skip ?_
      | refine WpA.condT rfl ?_
      | refine WpA.condF rfl ?_
      | refine WpA.cond _ rfl (fun h => ?_) (fun h => ?_)
      | refine WpA.draw (by kernel_rfl) ?_
      | refine LexA.op _ rfl rfl rfl rfl rfl ?_
      | refine LexA.skip rfl rfl rfl ?_
      | refine LexA.build _ rfl rfl rfl rfl rfl ?_
      | refine LexA.sh _ rfl rfl rfl rfl rfl ?_
      | refine LexA.gsplit _ rfl rfl rfl (fun h => ?_) (fun h => ?_)
      | refine LexA.nil ?_
    refine retK.ok rfl rfl (congrArg (AV.int .i64) ?_) .int
    show IntKind.i64.wrap (40 + IntKind.i64.wrap ((UInt8.ofNat (bitLen (x / 2 ^ 32 / 2 ^ 8))).toNat : Int)) = _
    rw [hs, UInt8.toNat_ofNat', Nat.mod_eq_of_lt (by omega), wrap64 (x := ((bitLen (x / 2 ^ 32 / 2 ^ 8) : Nat) : Int)) (by omega) (by omega), wrap64 (by omega) (by omega)]
    omega
  · simp only [m32, m16, m8, fdiv_nat, decide_eq_true_eq, decide_eq_false_iff_not] at *
    have hlt : x / 2 ^ 32 < 256 := by omega
    have hs : bitLen x = bitLen (x / 2 ^ 32) + 32 := by rw [bitLen_shift (x := x) (k := 32) (by omega)]
    have h8 := bitLen_lt (x := x / 2 ^ 32) (k := 8) hlt
    refine WpOps.indexS (s := lenTab) (UInt8.ofNat (bitLen (x / 2 ^ 32))) rfl rfl rfl rfl rfl (by kernel_rfl) rfl ?_ ?_ ?_
    · show 0 ≤ IntKind.u8.wrap ((x / 2 ^ 32 : Nat) : Int)
      rw [wrapu8 (by omega) (by omega)]; omega
    · show lenTab[(IntKind.u8.wrap ((x / 2 ^ 32 : Nat) : Int)).toNat]? = _
      rw [wrapu8 (by omega) (by omega)]; exact lenTab_get hlt
    repeat' first
      | refine WpA.seq ?_
      | refine WpA.region ?_
      | refine WpOps.op _ rfl rfl rfl rfl rfl ?_
      | refine WpOps.box _ rfl rfl rfl rfl rfl ?_
      | refine WpOps.alloc _ rfl rfl rfl rfl rfl rfl ?_
      | refine WpOps.store rfl rfl rfl rfl rfl rfl rfl rfl rfl rfl ?_
      | refine WpOps.skip rfl rfl rfl ?_
      | refine WpOps.build _ rfl rfl rfl rfl rfl ?_
      | refine WpOps.sh _ rfl rfl rfl rfl rfl ?_
      | refine WpOps.gsplit _ rfl rfl rfl (fun h => ?_) (fun h => ?_)
      | refine WpA.block ?_
      | refine WpA.exit ?_
      | refine WpOps.nil ?_
      | refine WpA.ret ?_
      | refine WpA.skip ?_
      | refine WpA.condT rfl ?_
      | refine WpA.condF rfl ?_
      | refine WpA.cond _ rfl (fun h => ?_) (fun h => ?_)
      | refine WpA.draw (by kernel_rfl) ?_
      | refine LexA.op _ rfl rfl rfl rfl rfl ?_
      | refine LexA.skip rfl rfl rfl ?_
      | refine LexA.build _ rfl rfl rfl rfl rfl ?_
      | refine LexA.sh _ rfl rfl rfl rfl rfl ?_
      | refine LexA.gsplit _ rfl rfl rfl (fun h => ?_) (fun h => ?_)
      | refine LexA.nil ?_
    refine retK.ok rfl rfl (congrArg (AV.int .i64) ?_) .int
    show IntKind.i64.wrap (32 + IntKind.i64.wrap ((UInt8.ofNat (bitLen (x / 2 ^ 32))).toNat : Int)) = _
    rw [hs, UInt8.toNat_ofNat', Nat.mod_eq_of_lt (by omega), wrap64 (x := ((bitLen (x / 2 ^ 32) : Nat) : Int)) (by omega) (by omega), wrap64 (by omega) (by omega)]
    omega
  · simp only [m32, m16, m8, fdiv_nat, decide_eq_true_eq, decide_eq_false_iff_not] at *
    have hlt : x / 2 ^ 16 / 2 ^ 8 < 256 := by omega
    have hs : bitLen x = bitLen (x / 2 ^ 16 / 2 ^ 8) + 24 := by rw [bitLen_shift (x := x) (k := 16) (by omega), bitLen_shift (x := x / 2 ^ 16) (k := 8) (by omega)]
    have h8 := bitLen_lt (x := x / 2 ^ 16 / 2 ^ 8) (k := 8) hlt
    refine WpOps.indexS (s := lenTab) (UInt8.ofNat (bitLen (x / 2 ^ 16 / 2 ^ 8))) rfl rfl rfl rfl rfl (by kernel_rfl) rfl ?_ ?_ ?_
    · show 0 ≤ IntKind.u8.wrap ((x / 2 ^ 16 / 2 ^ 8 : Nat) : Int)
      rw [wrapu8 (by omega) (by omega)]; omega
    · show lenTab[(IntKind.u8.wrap ((x / 2 ^ 16 / 2 ^ 8 : Nat) : Int)).toNat]? = _
      rw [wrapu8 (by omega) (by omega)]; exact lenTab_get hlt
    repeat' first
      | refine WpA.seq ?_
      | refine WpA.region ?_
      | refine WpOps.op _ rfl rfl rfl rfl rfl ?_
      | refine WpOps.box _ rfl rfl rfl rfl rfl ?_
      | refine WpOps.alloc _ rfl rfl rfl rfl rfl rfl ?_
      | refine WpOps.store rfl rfl rfl rfl rfl rfl rfl rfl rfl rfl ?_
      | refine WpOps.skip rfl rfl rfl ?_
      | refine WpOps.build _ rfl rfl rfl rfl rfl ?_
      | refine WpOps.sh _ rfl rfl rfl rfl rfl ?_
      | refine WpOps.gsplit _ rfl rfl rfl (fun h => ?_) (fun h => ?_)
      | refine WpA.block ?_
      | refine WpA.exit ?_
      | refine WpOps.nil ?_
      | refine WpA.ret ?_
      | refine WpA.skip ?_
      | refine WpA.condT rfl ?_
      | refine WpA.condF rfl ?_
      | refine WpA.cond _ rfl (fun h => ?_) (fun h => ?_)
      | refine WpA.draw (by kernel_rfl) ?_
      | refine LexA.op _ rfl rfl rfl rfl rfl ?_
      | refine LexA.skip rfl rfl rfl ?_
      | refine LexA.build _ rfl rfl rfl rfl rfl ?_
      | refine LexA.sh _ rfl rfl rfl rfl rfl ?_
      | refine LexA.gsplit _ rfl rfl rfl (fun h => ?_) (fun h => ?_)
      | refine LexA.nil ?_
    refine retK.ok rfl rfl (congrArg (AV.int .i64) ?_) .int
    show IntKind.i64.wrap (24 + IntKind.i64.wrap ((UInt8.ofNat (bitLen (x / 2 ^ 16 / 2 ^ 8))).toNat : Int)) = _
    rw [hs, UInt8.toNat_ofNat', Nat.mod_eq_of_lt (by omega), wrap64 (x := ((bitLen (x / 2 ^ 16 / 2 ^ 8) : Nat) : Int)) (by omega) (by omega), wrap64 (by omega) (by omega)]
    omega
  · simp only [m32, m16, m8, fdiv_nat, decide_eq_true_eq, decide_eq_false_iff_not] at *
    have hlt : x / 2 ^ 16 < 256 := by omega
    have hs : bitLen x = bitLen (x / 2 ^ 16) + 16 := by rw [bitLen_shift (x := x) (k := 16) (by omega)]
    have h8 := bitLen_lt (x := x / 2 ^ 16) (k := 8) hlt
    refine WpOps.indexS (s := lenTab) (UInt8.ofNat (bitLen (x / 2 ^ 16))) rfl rfl rfl rfl rfl (by kernel_rfl) rfl ?_ ?_ ?_
    · show 0 ≤ IntKind.u8.wrap ((x / 2 ^ 16 : Nat) : Int)
      rw [wrapu8 (by omega) (by omega)]; omega
    · show lenTab[(IntKind.u8.wrap ((x / 2 ^ 16 : Nat) : Int)).toNat]? = _
      rw [wrapu8 (by omega) (by omega)]; exact lenTab_get hlt
    repeat' first
      | refine WpA.seq ?_
      | refine WpA.region ?_
      | refine WpOps.op _ rfl rfl rfl rfl rfl ?_
      | refine WpOps.box _ rfl rfl rfl rfl rfl ?_
      | refine WpOps.alloc _ rfl rfl rfl rfl rfl rfl ?_
      | refine WpOps.store rfl rfl rfl rfl rfl rfl rfl rfl rfl rfl ?_
      | refine WpOps.skip rfl rfl rfl ?_
      | refine WpOps.build _ rfl rfl rfl rfl rfl ?_
      | refine WpOps.sh _ rfl rfl rfl rfl rfl ?_
      | refine WpOps.gsplit _ rfl rfl rfl (fun h => ?_) (fun h => ?_)
      | refine WpA.block ?_
      | refine WpA.exit ?_
      | refine WpOps.nil ?_
      | refine WpA.ret ?_
      | refine WpA.skip ?_
      | refine WpA.condT rfl ?_
      | refine WpA.condF rfl ?_
      | refine WpA.cond _ rfl (fun h => ?_) (fun h => ?_)
      | refine WpA.draw (by kernel_rfl) ?_
      | refine LexA.op _ rfl rfl rfl rfl rfl ?_
      | refine LexA.skip rfl rfl rfl ?_
      | refine LexA.build _ rfl rfl rfl rfl rfl ?_
      | refine LexA.sh _ rfl rfl rfl rfl rfl ?_
      | refine LexA.gsplit _ rfl rfl rfl (fun h => ?_) (fun h => ?_)
      | refine LexA.nil ?_
    refine retK.ok rfl rfl (congrArg (AV.int .i64) ?_) .int
    show IntKind.i64.wrap (16 + IntKind.i64.wrap ((UInt8.ofNat (bitLen (x / 2 ^ 16))).toNat : Int)) = _
    rw [hs, UInt8.toNat_ofNat', Nat.mod_eq_of_lt (by omega), wrap64 (x := ((bitLen (x / 2 ^ 16) : Nat) : Int)) (by omega) (by omega), wrap64 (by omega) (by omega)]
    omega
  · simp only [m32, m16, m8, fdiv_nat, decide_eq_true_eq, decide_eq_false_iff_not] at *
    have hlt : x / 2 ^ 8 < 256 := by omega
    have hs : bitLen x = bitLen (x / 2 ^ 8) + 8 := by rw [bitLen_shift (x := x) (k := 8) (by omega)]
    have h8 := bitLen_lt (x := x / 2 ^ 8) (k := 8) hlt
    refine WpOps.indexS (s := lenTab) (UInt8.ofNat (bitLen (x / 2 ^ 8))) rfl rfl rfl rfl rfl (by kernel_rfl) rfl ?_ ?_ ?_
    · show 0 ≤ IntKind.u8.wrap ((x / 2 ^ 8 : Nat) : Int)
      rw [wrapu8 (by omega) (by omega)]; omega
    · show lenTab[(IntKind.u8.wrap ((x / 2 ^ 8 : Nat) : Int)).toNat]? = _
      rw [wrapu8 (by omega) (by omega)]; exact lenTab_get hlt
    repeat' first
      | refine WpA.seq ?_
      | refine WpA.region ?_
      | refine WpOps.op _ rfl rfl rfl rfl rfl ?_
      | refine WpOps.box _ rfl rfl rfl rfl rfl ?_
      | refine WpOps.alloc _ rfl rfl rfl rfl rfl rfl ?_
      | refine WpOps.store rfl rfl rfl rfl rfl rfl rfl rfl rfl rfl ?_
      | refine WpOps.skip rfl rfl rfl ?_
      | refine WpOps.build _ rfl rfl rfl rfl rfl ?_
      | refine WpOps.sh _ rfl rfl rfl rfl rfl ?_
      | refine WpOps.gsplit _ rfl rfl rfl (fun h => ?_) (fun h => ?_)
      | refine WpA.block ?_
      | refine WpA.exit ?_
      | refine WpOps.nil ?_
      | refine WpA.ret ?_
      | refine WpA.skip ?_
      | refine WpA.condT rfl ?_
      | refine WpA.condF rfl ?_
      | refine WpA.cond _ rfl (fun h => ?_) (fun h => ?_)
      | refine WpA.draw (by kernel_rfl) ?_
      | refine LexA.op _ rfl rfl rfl rfl rfl ?_
      | refine LexA.skip rfl rfl rfl ?_
      | refine LexA.build _ rfl rfl rfl rfl rfl ?_
      | refine LexA.sh _ rfl rfl rfl rfl rfl ?_
      | refine LexA.gsplit _ rfl rfl rfl (fun h => ?_) (fun h => ?_)
      | refine LexA.nil ?_
    refine retK.ok rfl rfl (congrArg (AV.int .i64) ?_) .int
    show IntKind.i64.wrap (8 + IntKind.i64.wrap ((UInt8.ofNat (bitLen (x / 2 ^ 8))).toNat : Int)) = _
    rw [hs, UInt8.toNat_ofNat', Nat.mod_eq_of_lt (by omega), wrap64 (x := ((bitLen (x / 2 ^ 8) : Nat) : Int)) (by omega) (by omega), wrap64 (by omega) (by omega)]
    omega
  · simp only [m32, m16, m8, fdiv_nat, decide_eq_true_eq, decide_eq_false_iff_not] at *
    have hlt : x < 256 := by omega
    have hs : True := trivial
    have h8 := bitLen_lt (x := x) (k := 8) hlt
    refine WpOps.indexS (s := lenTab) (UInt8.ofNat (bitLen (x))) rfl rfl rfl rfl rfl (by kernel_rfl) rfl ?_ ?_ ?_
    · show 0 ≤ IntKind.u8.wrap ((x : Nat) : Int)
      rw [wrapu8 (by omega) (by omega)]; omega
    · show lenTab[(IntKind.u8.wrap ((x : Nat) : Int)).toNat]? = _
      rw [wrapu8 (by omega) (by omega)]; exact lenTab_get hlt
    repeat' first
      | refine WpA.seq ?_
      | refine WpA.region ?_
      | refine WpOps.op _ rfl rfl rfl rfl rfl ?_
      | refine WpOps.box _ rfl rfl rfl rfl rfl ?_
      | refine WpOps.alloc _ rfl rfl rfl rfl rfl rfl ?_
      | refine WpOps.store rfl rfl rfl rfl rfl rfl rfl rfl rfl rfl ?_
      | refine WpOps.skip rfl rfl rfl ?_
      | refine WpOps.build _ rfl rfl rfl rfl rfl ?_
      | refine WpOps.sh _ rfl rfl rfl rfl rfl ?_
      | refine WpOps.gsplit _ rfl rfl rfl (fun h => ?_) (fun h => ?_)
      | refine WpA.block ?_
      | refine WpA.exit ?_
      | refine WpOps.nil ?_
      | refine WpA.ret ?_
      | refine WpA.skip ?_
      | refine WpA.condT rfl ?_
      | refine WpA.condF rfl ?_
      | refine WpA.cond _ rfl (fun h => ?_) (fun h => ?_)
      | refine WpA.draw (by kernel_rfl) ?_
      | refine LexA.op _ rfl rfl rfl rfl rfl ?_
      | refine LexA.skip rfl rfl rfl ?_
      | refine LexA.build _ rfl rfl rfl rfl rfl ?_
      | refine LexA.sh _ rfl rfl rfl rfl rfl ?_
      | refine LexA.gsplit _ rfl rfl rfl (fun h => ?_) (fun h => ?_)
      | refine LexA.nil ?_
    refine retK.ok rfl rfl (congrArg (AV.int .i64) ?_) .int
    show IntKind.i64.wrap (0 + IntKind.i64.wrap ((UInt8.ofNat (bitLen (x))).toNat : Int)) = _
    rw [UInt8.toNat_ofNat', Nat.mod_eq_of_lt (by omega), wrap64 (x := ((bitLen (x) : Nat) : Int)) (by omega) (by omega), wrap64 (by omega) (by omega)]
    omega
end Go.Gp.Tryd

/- The octet codec: numbers, strings, sequences. -/
namespace Go.Gp.Tryd
open Go.Proofs
set_option linter.unusedVariables false
set_option linter.unusedSimpArgs false
set_option maxHeartbeats 4000000

/-- The last n bytes of a number, the highest first. -/
def beN (x : Nat) : Nat → List UInt8
  | 0 => []
  | n + 1 => UInt8.ofNat (x / 2 ^ (8 * n)) :: beN x n
def be (x : Nat) : List UInt8 := beN x ((bitLen x + 7) / 8)

def octA (tag : UInt8) (bs : List UInt8) (items : List (List AV)) : List AV := [u8 tag, .sl .no 1 (bs.map byteRow), .sl .no 3 items]

theorem bd_bytes (n : Nat) (bs : List UInt8) : Bd n (.sl .no 1 (bs.map byteRow)) := by
  refine .sl (fun _ _ e => by cases e) fun x hx e he => ?_
  obtain ⟨b, _, rfl⟩ := List.mem_map.1 hx
  have := List.mem_singleton.1 he
  subst this
  exact .int
theorem bd_oct {n : Nat} {tag : UInt8} {bs : List UInt8} {items : List (List AV)} (h : ∀ x ∈ items, ∀ e ∈ x, Bd n e) : Bd n (.agg (octA tag bs items)) := .agg fun e he => by
  simp only [octA, List.mem_cons, List.not_mem_nil, or_false] at he
  rcases he with rfl | rfl | rfl
  · exact .int
  · exact bd_bytes n bs
  · exact .sl (fun _ _ e => by cases e) h

theorem Num_A (t : UInt8) (x : Nat) (H : List AObj) (hx : x < 18446744073709551616) : CallsA E 45 [u8 t, .int .u64 x] H (Is H (.agg (octA t (be x) []))) := by
  refine .enter Tryd.func45 rfl rfl rfl 29 Tryd.ntmps45 (Nat.le_of_ble_eq_true rfl) ?_
  have hb := bitLen_lt (x := x) (k := 64) hx
  repeat' first
    | refine WpA.seq ?_
    | refine WpA.region ?_
    | refine WpOps.op _ rfl rfl rfl rfl rfl ?_
    | refine WpOps.box _ rfl rfl rfl rfl rfl ?_
    | refine WpOps.alloc _ rfl rfl rfl rfl rfl rfl ?_
    | refine WpOps.store rfl rfl rfl rfl rfl rfl rfl rfl rfl rfl ?_
    | refine WpOps.skip rfl rfl rfl ?_
    | refine WpOps.build _ rfl rfl rfl rfl rfl ?_
    | refine WpOps.sh _ rfl rfl rfl rfl rfl ?_
    | (refine WpOps.call rfl rfl rfl rfl rfl (by exact Len64_A x _ hx) ?_; rintro _ _ ⟨rfl, rfl⟩)
    | refine WpOps.quo _ rfl rfl rfl rfl rfl ?_
    | refine WpOps.gsplit _ rfl rfl rfl (fun h => ?_) (fun h => ?_)
    | refine WpA.block ?_
    | refine WpA.exit ?_
    | refine WpOps.nil ?_
    | refine WpA.ret ?_
    | refine WpA.skip ?_
    | refine WpA.condT rfl ?_
    | refine WpA.condF rfl ?_
    | refine WpA.cond _ rfl (fun h => ?_) (fun h => ?_)
    | refine WpA.draw (by kernel_rfl) ?_
    | refine LexA.op _ rfl rfl rfl rfl rfl ?_
    | refine LexA.skip rfl rfl rfl ?_
    | refine LexA.build _ rfl rfl rfl rfl rfl ?_
    | refine LexA.sh _ rfl rfl rfl rfl rfl ?_
    | refine LexA.call rfl rfl rfl rfl rfl (by exact Len64_A x _ hx) ?_
    | refine LexA.gsplit _ rfl rfl rfl (fun h => ?_) (fun h => ?_)
    | refine LexA.nil ?_
  refine WpA.adoptC (j := 1) (q := 1) 1 rfl rfl ?_
  have h1 : IntKind.i64.wrap ((IntKind.i64.wrap ((bitLen x : Int) + 7)).tdiv (7 + 1)) = (((bitLen x + 7) / 8 : Nat) : Int) := by
    rw [wrap64 (x := (bitLen x : Int) + 7) (by omega) (by omega)]
    have : ((bitLen x : Int) + 7).tdiv (7 + 1) = (((bitLen x + 7) / 8 : Nat) : Int) := by
      rw [Int.tdiv_eq_ediv_of_nonneg (by omega)]
      omega
    rw [this, wrap64 (by omega) (by omega)]
  refine WpA.loopS (α := Nat × List (List AV)) (fun p => [(1, .int .u64 x), (4, .ptr H.length 0 0), (5, .ptr H.length 1 0), (6, .int .i64 p.1)])
    (fun p => H ++ [AObj.cells [.int .u8 0, .sl .full 0 [], .sl .full 0 []], AObj.cells [u8 t, .sl (.row H.length 2) 1 p.2, .sl .full 0 []], .tail p.2.length 1])
    (fun p => p.1 ≤ 8 ∧ p.2.length + p.1 ≤ 8 ∧ ∃ done : List UInt8, p.2 = done.map byteRow ∧ done ++ beN x p.1 = be x) (fun p => p.1) ((bitLen x + 7) / 8, [])
    ⟨by simp only; omega, by simp only [List.length_nil]; omega, [], rfl, rfl⟩ ⟨rfl, rfl, rfl, congrArg (AV.int .i64) h1, trivial⟩ rfl ?_
  rintro ⟨m, xs⟩ ⟨hm, hl, done, hd1, hd2⟩
  dsimp only at hm hl hd1 hd2 ⊢
  repeat' first
    | refine WpA.seq ?_
    | refine WpA.region ?_
    | refine WpOps.op _ rfl rfl rfl rfl rfl ?_
    | refine WpOps.box _ rfl rfl rfl rfl rfl ?_
    | refine WpOps.alloc _ rfl rfl rfl rfl rfl rfl ?_
    | refine WpOps.store rfl rfl rfl rfl rfl rfl rfl rfl rfl rfl ?_
    | refine WpOps.skip rfl rfl rfl ?_
    | refine WpOps.build _ rfl rfl rfl rfl rfl ?_
    | refine WpOps.sh _ rfl rfl rfl rfl rfl ?_
    | refine WpOps.gsplit _ rfl rfl rfl (fun h => ?_) (fun h => ?_)
    | refine WpA.block ?_
    | refine WpA.exit ?_
    | refine WpOps.nil ?_
    | refine WpA.ret ?_
    | refine WpA.skip ?_
    | refine WpA.condT rfl ?_
    | refine WpA.condF rfl ?_
    | refine WpA.cond _ rfl (fun h => ?_) (fun h => ?_)
    | refine WpA.drawC (by kernel_rfl) (by kernel_rfl) ?_
    | refine LexH.op0 _ rfl rfl rfl rfl rfl (fun _ => rfl) ?_
    | refine LexH.op1 _ rfl rfl rfl rfl rfl rfl ?_
    | refine LexH.load4 _ rfl rfl rfl rfl rfl rfl (by simp) rfl rfl rfl rfl ?_
    | refine LexH.skip rfl rfl rfl ?_
    | refine LexH.build _ rfl rfl rfl rfl rfl rfl ?_
    | refine LexH.buildSlice _ rfl rfl rfl rfl rfl rfl rfl rfl rfl rfl rfl rfl ?_
    | refine LexH.store rfl rfl rfl rfl rfl rfl rfl rfl rfl rfl rfl ?_
    | refine LexH.sh _ rfl rfl rfl rfl rfl rfl ?_
    | refine LexH.gsplit _ rfl rfl rfl (fun h => ?_) (fun h => ?_)
    | refine LexH.nil ?_
  · simp at h
    obtain ⟨m, rfl⟩ : ∃ q, m = q + 1 := ⟨m - 1, by omega⟩
    have hq : IntKind.i64.wrap (8 * IntKind.i64.wrap (((m + 1 : Nat) : Int) - 1)) = ((8 * m : Nat) : Int) := by
      rw [wrap64 (x := ((m + 1 : Nat) : Int) - 1) (by omega) (by omega), wrap64 (by omega) (by omega)]
      omega
    refine LexH.p0 rfl rfl rfl rfl (fun H0 => .shr rfl rfl rfl (by show (0 : Int) ≤ IntKind.i64.wrap (8 * IntKind.i64.wrap (((m + 1 : Nat) : Int) - 1)); rw [hq]; omega)) ?_
    repeat' first
      | refine WpA.seq ?_
      | refine WpA.region ?_
      | refine WpOps.op _ rfl rfl rfl rfl rfl ?_
      | refine WpOps.box _ rfl rfl rfl rfl rfl ?_
      | refine WpOps.alloc _ rfl rfl rfl rfl rfl rfl ?_
      | refine WpOps.store rfl rfl rfl rfl rfl rfl rfl rfl rfl rfl ?_
      | refine WpOps.skip rfl rfl rfl ?_
      | refine WpOps.build _ rfl rfl rfl rfl rfl ?_
      | refine WpOps.sh _ rfl rfl rfl rfl rfl ?_
      | refine WpOps.gsplit _ rfl rfl rfl (fun h => ?_) (fun h => ?_)
      | refine WpA.block ?_
      | refine WpA.exit ?_
      | refine WpOps.nil ?_
      | refine WpA.ret ?_
      | refine WpA.skip ?_
      | refine WpA.condT rfl ?_
      | refine WpA.condF rfl ?_
      | refine WpA.cond _ rfl (fun h => ?_) (fun h => ?_)
      | refine WpA.drawC (by kernel_rfl) (by kernel_rfl) ?_
      | refine LexH.op0 _ rfl rfl rfl rfl rfl (fun _ => rfl) ?_
      | refine LexH.op1 _ rfl rfl rfl rfl rfl rfl ?_
      | refine LexH.load4 _ rfl rfl rfl rfl rfl rfl (by simp) rfl rfl rfl rfl ?_
      | refine LexH.skip rfl rfl rfl ?_
      | refine LexH.build _ rfl rfl rfl rfl rfl rfl ?_
      | refine LexH.buildSlice _ rfl rfl rfl rfl rfl rfl rfl rfl rfl rfl rfl rfl ?_
      | refine LexH.store rfl rfl rfl rfl rfl rfl rfl rfl rfl rfl rfl ?_
      | refine LexH.sh _ rfl rfl rfl rfl rfl rfl ?_
      | refine LexH.gsplit _ rfl rfl rfl (fun h => ?_) (fun h => ?_)
      | refine LexH.nil ?_
    refine LexH.appR rfl rfl rfl rfl rfl rfl rfl rfl (fun k h => by cases h) rfl rfl rfl rfl rfl rfl ?_ ?_ ?_
    · intro y hy a ha
      have hy' := List.mem_singleton.1 hy
      subst hy'
      have ha' := List.mem_singleton.1 ha
      subst ha'
      rfl
    · show (xs.length + 1) * 1 ≤ _
      omega
    repeat' first
      | refine WpA.seq ?_
      | refine WpA.region ?_
      | refine WpOps.op _ rfl rfl rfl rfl rfl ?_
      | refine WpOps.box _ rfl rfl rfl rfl rfl ?_
      | refine WpOps.alloc _ rfl rfl rfl rfl rfl rfl ?_
      | refine WpOps.store rfl rfl rfl rfl rfl rfl rfl rfl rfl rfl ?_
      | refine WpOps.skip rfl rfl rfl ?_
      | refine WpOps.build _ rfl rfl rfl rfl rfl ?_
      | refine WpOps.sh _ rfl rfl rfl rfl rfl ?_
      | refine WpOps.gsplit _ rfl rfl rfl (fun h => ?_) (fun h => ?_)
      | refine WpA.block ?_
      | refine WpA.exit ?_
      | refine WpOps.nil ?_
      | refine WpA.ret ?_
      | refine WpA.skip ?_
      | refine WpA.condT rfl ?_
      | refine WpA.condF rfl ?_
      | refine WpA.cond _ rfl (fun h => ?_) (fun h => ?_)
      | refine WpA.drawC (by kernel_rfl) (by kernel_rfl) ?_
      | refine LexH.op0 _ rfl rfl rfl rfl rfl (fun _ => rfl) ?_
      | refine LexH.op1 _ rfl rfl rfl rfl rfl rfl ?_
      | refine LexH.load4 _ rfl rfl rfl rfl rfl rfl (by simp) rfl rfl rfl rfl ?_
      | refine LexH.skip rfl rfl rfl ?_
      | refine LexH.build _ rfl rfl rfl rfl rfl rfl ?_
      | refine LexH.buildSlice _ rfl rfl rfl rfl rfl rfl rfl rfl rfl rfl rfl rfl ?_
      | refine LexH.store rfl rfl rfl rfl rfl rfl rfl rfl rfl rfl rfl ?_
      | refine LexH.sh _ rfl rfl rfl rfl rfl rfl ?_
      | refine LexH.gsplit _ rfl rfl rfl (fun h => ?_) (fun h => ?_)
      | refine LexH.nil ?_
    have hbv : IntKind.u8.wrap ((x : Int).fdiv (2 ^ min (IntKind.i64.wrap (8 * IntKind.i64.wrap (((m + 1 : Nat) : Int) - 1))).toNat IntKind.u64.bits)) = (((UInt8.ofNat (x / 2 ^ (8 * m))).toNat : Nat) : Int) := by
      rw [hq, Int.toNat_natCast, show min (8 * m) IntKind.u64.bits = 8 * m from by show min (8 * m) 64 = _; omega, fdiv_nat, UInt8.toNat_ofNat']
      generalize x / 2 ^ (8 * m) = y
      simp only [IntKind.wrap, IntKind.bits, IntKind.signed]
      simp
    refine ⟨(m, xs ++ [[.int .u8 _]]), ⟨by simp only; omega, by simp only [List.length_append, List.length_singleton]; omega, done ++ [UInt8.ofNat (x / 2 ^ (8 * m))], ?_, ?_⟩, by simp only; omega, ⟨rfl, rfl, rfl, congrArg (AV.int .i64) ?_, trivial⟩, rfl⟩
    · show xs ++ [[AV.int .u8 (IntKind.u8.wrap ((x : Int).fdiv (2 ^ min (IntKind.i64.wrap (8 * IntKind.i64.wrap (((m + 1 : Nat) : Int) - 1))).toNat IntKind.u64.bits)))]] = _
      rw [hbv, hd1, List.map_append]
      rfl
    · simp only
      rw [← hd2, beN, List.append_assoc]
      rfl
    · show IntKind.i64.wrap (((m + 1 : Nat) : Int) - 1) = (m : Int)
      rw [wrap64 (by omega) (by omega)]
      omega
  · simp at h
    subst h
    have hd3 : done = be x := by rw [← hd2, beN, List.append_nil]
    subst hd1
    rw [hd3]
    refine retK.sub (.inr rfl) rfl (TrOk.refl H) (L := _) rfl rfl (Sub.agg (vs := octA t (be x) []) ⟨Sub.refl _, Sub.untag, Sub.empty, trivial⟩) (bd_oct (by simp)) ⟨rfl, rfl⟩
theorem Str_A (t : UInt8) (s : List UInt8) (H : List AObj) (hl : s.length ≤ 140737488355328) : CallsA E 47 [u8 t, .str s] H (Is H (.agg (octA t s []))) := by
  refine .enter Tryd.func47 rfl rfl rfl 9 Tryd.ntmps47 (Nat.le_of_ble_eq_true rfl) ?_
  repeat' first
    | refine WpA.seq ?_
    | refine WpA.region ?_
    | refine WpOps.op _ rfl rfl rfl rfl rfl ?_
    | refine WpOps.box _ rfl rfl rfl rfl rfl ?_
    | refine WpOps.alloc _ rfl rfl rfl rfl rfl rfl ?_
    | refine WpOps.store rfl rfl rfl rfl rfl rfl rfl rfl rfl rfl ?_
    | refine WpOps.skip rfl rfl rfl ?_
    | refine WpOps.build _ rfl rfl rfl rfl rfl ?_
    | refine WpOps.sh _ rfl rfl rfl rfl rfl ?_
    | refine WpOps.p1 rfl rfl rfl (.strSl rfl rfl rfl rfl rfl hl) ?_
    | refine WpOps.gsplit _ rfl rfl rfl (fun h => ?_) (fun h => ?_)
    | refine WpA.block ?_
    | refine WpA.exit ?_
    | refine WpOps.nil ?_
    | refine WpA.ret ?_
    | refine WpA.skip ?_
    | refine WpA.condT rfl ?_
    | refine WpA.condF rfl ?_
    | refine WpA.cond _ rfl (fun h => ?_) (fun h => ?_)
    | refine WpA.draw (by kernel_rfl) ?_
    | refine LexA.op _ rfl rfl rfl rfl rfl ?_
    | refine LexA.skip rfl rfl rfl ?_
    | refine LexA.build _ rfl rfl rfl rfl rfl ?_
    | refine LexA.sh _ rfl rfl rfl rfl rfl ?_
    | refine LexA.gsplit _ rfl rfl rfl (fun h => ?_) (fun h => ?_)
    | refine LexA.nil ?_
  exact retK.sub (.inr rfl) rfl (TrOk.refl H) (L := _) rfl rfl (Sub.agg (vs := octA t s []) ⟨Sub.refl _, Sub.refl _, Sub.empty, trivial⟩) (bd_oct (by simp)) ⟨rfl, rfl⟩
end Go.Gp.Tryd

/- The octet codec: copies. -/
namespace Go.Gp.Tryd
open Go.Proofs
set_option linter.unusedVariables false
set_option linter.unusedSimpArgs false
set_option maxHeartbeats 4000000

theorem CloneB_A (xs : List (List AV)) (H : List AObj) (hl : xs.length ≤ 140737488355328) (hbd : Bd H.length (.sl .no 1 xs)) : CallsA E 86 [.sl .no 1 xs] H (Is H (.sl .no 1 xs)) := by
  refine .enter Tryd.func86 rfl rfl rfl 8 Tryd.ntmps86 (Nat.le_of_ble_eq_true rfl) ?_
  repeat' first
    | refine WpA.seq ?_
    | refine WpA.region ?_
    | refine WpOps.op _ rfl rfl rfl rfl rfl ?_
    | refine WpOps.box _ rfl rfl rfl rfl rfl ?_
    | refine WpOps.alloc _ rfl rfl rfl rfl rfl rfl ?_
    | refine WpOps.store rfl rfl rfl rfl rfl rfl rfl rfl rfl rfl ?_
    | refine WpOps.skip rfl rfl rfl ?_
    | refine WpOps.build _ rfl rfl rfl rfl rfl ?_
    | refine WpOps.sh _ rfl rfl rfl rfl rfl ?_
    | refine WpOps.gsplit _ rfl rfl rfl (fun h => ?_) (fun h => ?_)
    | refine WpA.block ?_
    | refine WpA.exit ?_
    | refine WpOps.nil ?_
    | refine WpA.ret ?_
    | refine WpA.skip ?_
    | refine WpA.condT rfl ?_
    | refine WpA.condF rfl ?_
    | refine WpA.cond _ rfl (fun h => ?_) (fun h => ?_)
    | refine WpA.draw (by kernel_rfl) ?_
    | refine LexA.op _ rfl rfl rfl rfl rfl ?_
    | refine LexA.skip rfl rfl rfl ?_
    | refine LexA.build _ rfl rfl rfl rfl rfl ?_
    | refine LexA.sh _ rfl rfl rfl rfl rfl ?_
    | refine LexA.gsplit _ rfl rfl rfl (fun h => ?_) (fun h => ?_)
    | refine LexA.nil ?_
  refine WpOps.isNil rfl rfl rfl rfl rfl rfl (fun h0 => by cases h0) (fun b hb => ?_)
  repeat' first
    | refine WpA.seq ?_
    | refine WpA.region ?_
    | refine WpOps.op _ rfl rfl rfl rfl rfl ?_
    | refine WpOps.box _ rfl rfl rfl rfl rfl ?_
    | refine WpOps.alloc _ rfl rfl rfl rfl rfl rfl ?_
    | refine WpOps.store rfl rfl rfl rfl rfl rfl rfl rfl rfl rfl ?_
    | refine WpOps.skip rfl rfl rfl ?_
    | refine WpOps.build _ rfl rfl rfl rfl rfl ?_
    | refine WpOps.sh _ rfl rfl rfl rfl rfl ?_
    | refine WpOps.buildSlice [] rfl rfl rfl rfl rfl rfl rfl rfl rfl rfl rfl ?_
    | refine WpOps.gsplit _ rfl rfl rfl (fun h => ?_) (fun h => ?_)
    | refine WpA.block ?_
    | refine WpA.exit ?_
    | refine WpOps.nil ?_
    | refine WpA.ret ?_
    | refine WpA.skip ?_
    | refine WpA.condT rfl ?_
    | refine WpA.condF rfl ?_
    | refine WpA.cond _ rfl (fun h => ?_) (fun h => ?_)
    | refine WpA.draw (by kernel_rfl) ?_
    | refine LexA.op _ rfl rfl rfl rfl rfl ?_
    | refine LexA.skip rfl rfl rfl ?_
    | refine LexA.build _ rfl rfl rfl rfl rfl ?_
    | refine LexA.sh _ rfl rfl rfl rfl rfl ?_
    | refine LexA.gsplit _ rfl rfl rfl (fun h => ?_) (fun h => ?_)
    | refine LexA.nil ?_
  · have e := hb h
    subst e
    exact retK.sub (.inr rfl) rfl (TrOk.refl H) (L := _) rfl rfl Sub.empty hbd ⟨rfl, rfl⟩
  · refine WpOps.appF (ys := xs) rfl rfl rfl rfl rfl rfl rfl (fun k h => by cases h) rfl rfl rfl ?_ ?_
    · show (0 + xs.length) * 1 ≤ _
      omega
    repeat' first
      | refine WpA.seq ?_
      | refine WpA.region ?_
      | refine WpOps.op _ rfl rfl rfl rfl rfl ?_
      | refine WpOps.box _ rfl rfl rfl rfl rfl ?_
      | refine WpOps.alloc _ rfl rfl rfl rfl rfl rfl ?_
      | refine WpOps.store rfl rfl rfl rfl rfl rfl rfl rfl rfl rfl ?_
      | refine WpOps.skip rfl rfl rfl ?_
      | refine WpOps.build _ rfl rfl rfl rfl rfl ?_
      | refine WpOps.sh _ rfl rfl rfl rfl rfl ?_
      | refine WpOps.gsplit _ rfl rfl rfl (fun h => ?_) (fun h => ?_)
      | refine WpA.block ?_
      | refine WpA.exit ?_
      | refine WpOps.nil ?_
      | refine WpA.ret ?_
      | refine WpA.skip ?_
      | refine WpA.condT rfl ?_
      | refine WpA.condF rfl ?_
      | refine WpA.cond _ rfl (fun h => ?_) (fun h => ?_)
      | refine WpA.draw (by kernel_rfl) ?_
      | refine LexA.op _ rfl rfl rfl rfl rfl ?_
      | refine LexA.skip rfl rfl rfl ?_
      | refine LexA.build _ rfl rfl rfl rfl rfl ?_
      | refine LexA.sh _ rfl rfl rfl rfl rfl ?_
      | refine LexA.gsplit _ rfl rfl rfl (fun h => ?_) (fun h => ?_)
      | refine LexA.nil ?_
    exact retK.sub (.inr rfl) rfl (TrOk.refl H) (L := _) rfl rfl (Sub.refl _) hbd ⟨rfl, rfl⟩

theorem CloneI_A (xs : List (List AV)) (m q : Nat) (H : List AObj) (hmq : m + q = H.length) (hne : xs ≠ []) (hl : xs.length ≤ 1000000000000) :
    CallsA E 87 [.sl .no 3 xs] H (fun x H' => H' = H ++ [.cells xs.flatten] ∧ x = .ret (.os m q 0 3 xs.length)) := by
  refine .enter Tryd.func87 rfl rfl rfl 8 Tryd.ntmps87 (Nat.le_of_ble_eq_true rfl) ?_
  repeat' first
    | refine WpA.seq ?_
    | refine WpA.region ?_
    | refine WpOps.op _ rfl rfl rfl rfl rfl ?_
    | refine WpOps.box _ rfl rfl rfl rfl rfl ?_
    | refine WpOps.alloc _ rfl rfl rfl rfl rfl rfl ?_
    | refine WpOps.store rfl rfl rfl rfl rfl rfl rfl rfl rfl rfl ?_
    | refine WpOps.skip rfl rfl rfl ?_
    | refine WpOps.build _ rfl rfl rfl rfl rfl ?_
    | refine WpOps.sh _ rfl rfl rfl rfl rfl ?_
    | refine WpOps.gsplit _ rfl rfl rfl (fun h => ?_) (fun h => ?_)
    | refine WpA.block ?_
    | refine WpA.exit ?_
    | refine WpOps.nil ?_
    | refine WpA.ret ?_
    | refine WpA.skip ?_
    | refine WpA.condT rfl ?_
    | refine WpA.condF rfl ?_
    | refine WpA.cond _ rfl (fun h => ?_) (fun h => ?_)
    | refine WpA.draw (by kernel_rfl) ?_
    | refine LexA.op _ rfl rfl rfl rfl rfl ?_
    | refine LexA.skip rfl rfl rfl ?_
    | refine LexA.build _ rfl rfl rfl rfl rfl ?_
    | refine LexA.sh _ rfl rfl rfl rfl rfl ?_
    | refine LexA.gsplit _ rfl rfl rfl (fun h => ?_) (fun h => ?_)
    | refine LexA.nil ?_
  refine WpOps.isNil rfl rfl rfl rfl rfl rfl (fun h0 => by cases h0) (fun b hb => ?_)
  repeat' first
    | refine WpA.seq ?_
    | refine WpA.region ?_
    | refine WpOps.op _ rfl rfl rfl rfl rfl ?_
    | refine WpOps.box _ rfl rfl rfl rfl rfl ?_
    | refine WpOps.alloc _ rfl rfl rfl rfl rfl rfl ?_
    | refine WpOps.store rfl rfl rfl rfl rfl rfl rfl rfl rfl rfl ?_
    | refine WpOps.skip rfl rfl rfl ?_
    | refine WpOps.build _ rfl rfl rfl rfl rfl ?_
    | refine WpOps.sh _ rfl rfl rfl rfl rfl ?_
    | refine WpOps.buildSlice [] rfl rfl rfl rfl rfl rfl rfl rfl rfl rfl rfl ?_
    | refine WpOps.gsplit _ rfl rfl rfl (fun h => ?_) (fun h => ?_)
    | refine WpA.block ?_
    | refine WpA.exit ?_
    | refine WpOps.nil ?_
    | refine WpA.ret ?_
    | refine WpA.skip ?_
    | refine WpA.condT rfl ?_
    | refine WpA.condF rfl ?_
    | refine WpA.cond _ rfl (fun h => ?_) (fun h => ?_)
    | refine WpA.draw (by kernel_rfl) ?_
    | refine LexA.op _ rfl rfl rfl rfl rfl ?_
    | refine LexA.skip rfl rfl rfl ?_
    | refine LexA.build _ rfl rfl rfl rfl rfl ?_
    | refine LexA.sh _ rfl rfl rfl rfl rfl ?_
    | refine LexA.gsplit _ rfl rfl rfl (fun h => ?_) (fun h => ?_)
    | refine LexA.nil ?_
  · exact absurd (hb h) hne
  · refine WpOps.p1 rfl rfl rfl (.appO (L := []) (ys := xs) rfl rfl rfl rfl (fun k h => by cases h) rfl rfl rfl hne ?_) ?_
    · show xs.length * 56 ≤ _
      omega
    repeat' first
      | refine WpA.seq ?_
      | refine WpA.region ?_
      | refine WpOps.op _ rfl rfl rfl rfl rfl ?_
      | refine WpOps.box _ rfl rfl rfl rfl rfl ?_
      | refine WpOps.alloc _ rfl rfl rfl rfl rfl rfl ?_
      | refine WpOps.store rfl rfl rfl rfl rfl rfl rfl rfl rfl rfl ?_
      | refine WpOps.skip rfl rfl rfl ?_
      | refine WpOps.build _ rfl rfl rfl rfl rfl ?_
      | refine WpOps.sh _ rfl rfl rfl rfl rfl ?_
      | refine WpOps.gsplit _ rfl rfl rfl (fun h => ?_) (fun h => ?_)
      | refine WpA.block ?_
      | refine WpA.exit ?_
      | refine WpOps.nil ?_
      | refine WpA.ret ?_
      | refine WpA.skip ?_
      | refine WpA.condT rfl ?_
      | refine WpA.condF rfl ?_
      | refine WpA.cond _ rfl (fun h => ?_) (fun h => ?_)
      | refine WpA.draw (by kernel_rfl) ?_
      | refine LexA.op _ rfl rfl rfl rfl rfl ?_
      | refine LexA.skip rfl rfl rfl ?_
      | refine LexA.build _ rfl rfl rfl rfl rfl ?_
      | refine LexA.sh _ rfl rfl rfl rfl rfl ?_
      | refine LexA.gsplit _ rfl rfl rfl (fun h => ?_) (fun h => ?_)
      | refine LexA.nil ?_
    exact retK.all (.inr rfl) rfl rfl (Sub.os (by rw [hmq]; rfl)) ⟨rfl, rfl⟩
end Go.Gp.Tryd

/- The octet codec: readers of values. -/
namespace Go.Gp.Tryd
open Go.Proofs
set_option linter.unusedVariables false
set_option linter.unusedSimpArgs false
set_option maxHeartbeats 4000000

def readStr (tag : UInt8) (bs : List UInt8) (items : List (List AV)) (t : UInt8) (n : Int) : List UInt8 × Int :=
  if (tag == t) = true ∧ items = [] ∧ (bs.length : Int) ≤ n then (bs, 0) else ([], 12)

theorem u8_bne (a b : UInt8) : (((a.toNat : Nat) : Int) != ((b.toNat : Nat) : Int)) = !(a == b) := by
  rw [Bool.eq_iff_iff]
  simp only [bne_iff_ne, ne_eq, Bool.not_eq_true', beq_eq_false_iff_ne]
  constructor
  · intro h e; exact h (by rw [e])
  · intro h e; exact h (UInt8.toNat_inj.1 (by omega))

theorem bdS (n : Nat) (s : List UInt8) (a : Int) : Bd n (.tup [.str s, .int .i64 a]) := .tup fun e he => by
  simp only [List.mem_cons, List.not_mem_nil, or_false] at he
  rcases he with rfl | rfl
  · exact .str
  · exact .int

theorem ReadStr_A (tag : UInt8) (bs : List UInt8) (items : List (List AV)) (t : UInt8) (n : Int) (H : List AObj) :
    CallsA E 55 [.agg (octA tag bs items), u8 t, .int .i64 n] H (Is H (.tup [.str (readStr tag bs items t n).1, .int .i64 (readStr tag bs items t n).2])) := by
  refine .enter Tryd.func55 rfl rfl rfl 28 Tryd.ntmps55 (Nat.le_of_ble_eq_true rfl) ?_
  repeat' first
    | refine WpA.seq ?_
    | refine WpA.region ?_
    | refine WpOps.op _ rfl rfl rfl rfl rfl ?_
    | refine WpOps.box _ rfl rfl rfl rfl rfl ?_
    | refine WpOps.alloc _ rfl rfl rfl rfl rfl rfl ?_
    | refine WpOps.store rfl rfl rfl rfl rfl rfl rfl rfl rfl rfl ?_
    | refine WpOps.skip rfl rfl rfl ?_
    | refine WpOps.build _ rfl rfl rfl rfl rfl ?_
    | refine WpOps.sh _ rfl rfl rfl rfl rfl ?_
    | refine WpOps.p1 rfl rfl rfl (.slStr bs rfl rfl rfl rfl rfl rfl) ?_
    | refine WpOps.gsplit _ rfl rfl rfl (fun h => ?_) (fun h => ?_)
    | refine WpA.block ?_
    | refine WpA.exit ?_
    | refine WpOps.nil ?_
    | refine WpA.ret ?_
    | refine WpA.skip ?_
    | refine WpA.condT rfl ?_
    | refine WpA.condF rfl ?_
    | refine WpA.cond _ rfl (fun h => ?_) (fun h => ?_)
    | refine WpA.draw (by kernel_rfl) ?_
    | refine LexA.op _ rfl rfl rfl rfl rfl ?_
    | refine LexA.skip rfl rfl rfl ?_
    | refine LexA.build _ rfl rfl rfl rfl rfl ?_
    | refine LexA.sh _ rfl rfl rfl rfl rfl ?_
    | refine LexA.gsplit _ rfl rfl rfl (fun h => ?_) (fun h => ?_)
    | refine LexA.nil ?_
  · rw [u8_bne, Bool.not_eq_true'] at h
    have e : readStr tag bs items t n = ([], 12) := by rw [readStr, if_neg]; rintro ⟨h1, _⟩; rw [h] at h1; cases h1
    rw [e]
    exact retK.ok rfl rfl rfl (bdS _ _ _)
  · simp at h
    have e : readStr tag bs items t n = ([], 12) := by rw [readStr, if_neg]; rintro ⟨_, h1, _⟩; rw [h1] at h; simp at h
    rw [e]
    exact retK.ok rfl rfl rfl (bdS _ _ _)
  · simp at h
    have e : readStr tag bs items t n = ([], 12) := by rw [readStr, if_neg]; rintro ⟨_, _, h1⟩; omega
    rw [e]
    exact retK.ok rfl rfl rfl (bdS _ _ _)
  · rename_i h0 h1
    rw [u8_bne, Bool.not_eq_false'] at h0
    simp at h1 h
    have e : readStr tag bs items t n = (bs, 0) := by rw [readStr, if_pos ⟨h0, h1, by omega⟩]
    rw [e]
    exact retK.ok rfl rfl rfl (bdS _ _ _)
end Go.Gp.Tryd

/- The octet codec: sizes. -/
namespace Go.Gp.Tryd
open Go.Proofs
set_option linter.unusedVariables false
set_option linter.unusedSimpArgs false
set_option maxHeartbeats 4000000
set_option maxRecDepth 100000

theorem Len_A (x : Nat) (H : List AObj) (hx : x < 18446744073709551616) : CallsA E 84 [.int .u64 x] H (Is H (.int .i64 (bitLen x))) := by
  refine .enter Tryd.func84 rfl rfl rfl 8 Tryd.ntmps84 (Nat.le_of_ble_eq_true rfl) ?_
  repeat' first
    | refine WpA.seq ?_
    | refine WpA.region ?_
    | refine WpOps.op _ rfl rfl rfl rfl rfl ?_
    | refine WpOps.box _ rfl rfl rfl rfl rfl ?_
    | refine WpOps.alloc _ rfl rfl rfl rfl rfl rfl ?_
    | refine WpOps.store rfl rfl rfl rfl rfl rfl rfl rfl rfl rfl ?_
    | refine WpOps.skip rfl rfl rfl ?_
    | refine WpOps.build _ rfl rfl rfl rfl rfl ?_
    | refine WpOps.sh _ rfl rfl rfl rfl rfl ?_
    | (refine WpOps.call rfl rfl rfl rfl rfl (by exact Len64_A x _ hx) ?_; rintro _ _ ⟨rfl, rfl⟩)
    | refine WpOps.gsplit _ rfl rfl rfl (fun h => ?_) (fun h => ?_)
    | refine WpA.block ?_
    | refine WpA.exit ?_
    | refine WpOps.nil ?_
    | refine WpA.ret ?_
    | refine WpA.skip ?_
    | refine WpA.condT rfl ?_
    | refine WpA.condF rfl ?_
    | refine WpA.cond _ rfl (fun h => ?_) (fun h => ?_)
    | refine WpA.draw (by kernel_rfl) ?_
    | refine LexA.op _ rfl rfl rfl rfl rfl ?_
    | refine LexA.skip rfl rfl rfl ?_
    | refine LexA.build _ rfl rfl rfl rfl rfl ?_
    | refine LexA.sh _ rfl rfl rfl rfl rfl ?_
    | refine LexA.call rfl rfl rfl rfl rfl (by exact Len64_A x _ hx) ?_
    | refine LexA.gsplit _ rfl rfl rfl (fun h => ?_) (fun h => ?_)
    | refine LexA.nil ?_
  all_goals exact retK.ok rfl rfl rfl .int

def wide (n : Nat) : Nat := if n < 128 then 1 else 1 + (bitLen n + 7) / 8

theorem wide_A (n : Nat) (H : List AObj) (hn : n < 4611686018427387904) : CallsA E 90 [.int .i64 n] H (Is H (.int .i64 (wide n))) := by
  refine .enter Tryd.func90 rfl rfl rfl 11 Tryd.ntmps90 (Nat.le_of_ble_eq_true rfl) ?_
  have hw : IntKind.u64.wrap (n : Int) = n := wrapu64 (by omega) (by omega)
  have hb := bitLen_lt (x := n) (k := 64) (by omega)
  have hLen : ∀ H, CallsA E 84 [.int .u64 (IntKind.u64.wrap (n : Int))] H (Is H (.int .i64 (bitLen n))) := fun H => by rw [hw]; exact Len_A n H (by omega)
  repeat' first
    | refine WpA.seq ?_
    | refine WpA.region ?_
    | refine WpOps.op _ rfl rfl rfl rfl rfl ?_
    | refine WpOps.box _ rfl rfl rfl rfl rfl ?_
    | refine WpOps.alloc _ rfl rfl rfl rfl rfl rfl ?_
    | refine WpOps.store rfl rfl rfl rfl rfl rfl rfl rfl rfl rfl ?_
    | refine WpOps.skip rfl rfl rfl ?_
    | refine WpOps.build _ rfl rfl rfl rfl rfl ?_
    | refine WpOps.sh _ rfl rfl rfl rfl rfl ?_
    | (refine WpOps.call rfl rfl rfl rfl rfl (by exact hLen _) ?_; rintro _ _ ⟨rfl, rfl⟩)
    | refine WpOps.quo _ rfl rfl rfl rfl rfl ?_
    | refine WpOps.gsplit _ rfl rfl rfl (fun h => ?_) (fun h => ?_)
    | refine WpA.block ?_
    | refine WpA.exit ?_
    | refine WpOps.nil ?_
    | refine WpA.ret ?_
    | refine WpA.skip ?_
    | refine WpA.condT rfl ?_
    | refine WpA.condF rfl ?_
    | refine WpA.cond _ rfl (fun h => ?_) (fun h => ?_)
    | refine WpA.draw (by kernel_rfl) ?_
    | refine LexA.op _ rfl rfl rfl rfl rfl ?_
    | refine LexA.skip rfl rfl rfl ?_
    | refine LexA.build _ rfl rfl rfl rfl rfl ?_
    | refine LexA.sh _ rfl rfl rfl rfl rfl ?_
    | refine LexA.call rfl rfl rfl rfl rfl (by exact hLen _) ?_
    | refine LexA.gsplit _ rfl rfl rfl (fun h => ?_) (fun h => ?_)
    | refine LexA.nil ?_
  · simp at h
    have e : wide n = 1 := by rw [wide, if_pos (by omega)]
    rw [e]
    exact retK.ok rfl rfl rfl .int
  · simp at h
    have e : wide n = 1 + (bitLen n + 7) / 8 := by rw [wide, if_neg (by omega)]
    rw [e]
    refine retK.ok rfl rfl (congrArg (AV.int .i64) ?_) .int
    show IntKind.i64.wrap (1 + IntKind.i64.wrap ((IntKind.i64.wrap ((bitLen n : Int) + 7)).tdiv (7 + 1))) = _
    rw [wrap64 (x := (bitLen n : Int) + 7) (by omega) (by omega)]
    have : ((bitLen n : Int) + 7).tdiv (7 + 1) = (((bitLen n + 7) / 8 : Nat) : Int) := by
      rw [Int.tdiv_eq_ediv_of_nonneg (by omega)]
      omega
    rw [this, wrap64 (x := (((bitLen n + 7) / 8 : Nat) : Int)) (by omega) (by omega), wrap64 (by omega) (by omega)]
    omega
end Go.Gp.Tryd

/- The octet codec: values as trees. -/
namespace Go.Gp.Tryd
open Go.Proofs
set_option linter.unusedVariables false
set_option linter.unusedSimpArgs false
set_option maxHeartbeats 4000000
set_option maxRecDepth 100000

inductive Oct where
  | mk (tag : UInt8) (bs : List UInt8) (items : List Oct)

def Oct.tag : Oct → UInt8 | .mk t _ _ => t
def Oct.bs : Oct → List UInt8 | .mk _ b _ => b
def Oct.items : Oct → List Oct | .mk _ _ is => is
theorem Oct.eta (o : Oct) : Oct.mk o.tag o.bs o.items = o := by cases o; rfl

mutual
def Oct.cells0 : Oct → List AV
  | .mk t bs is => octA t bs (Oct.cellsL is)
def Oct.cellsL : List Oct → List (List AV)
  | [] => []
  | o :: os => o.cells0 :: Oct.cellsL os
end
def Oct.cells (o : Oct) : List AV := octA o.tag o.bs (Oct.cellsL o.items)
theorem cells_eq (o : Oct) : o.cells0 = o.cells := by cases o; simp only [Oct.cells0, Oct.cells, Oct.tag, Oct.bs, Oct.items]
theorem cellsL_cons (o : Oct) (os : List Oct) : Oct.cellsL (o :: os) = o.cells :: Oct.cellsL os := by rw [← cells_eq]; simp only [Oct.cellsL]
theorem cellsL_map : ∀ os : List Oct, Oct.cellsL os = os.map Oct.cells
  | [] => by simp only [Oct.cellsL, List.map_nil]
  | o :: os => by rw [cellsL_cons, cellsL_map os, List.map_cons]

mutual
/-- The bytes inside, and the whole size. -/
def Oct.inner : Oct → Nat
  | .mk t bs is => bs.length + Oct.sizeL is
def Oct.sizeL : List Oct → Nat
  | [] => 0
  | .mk t bs is :: os => (1 + wide (bs.length + Oct.sizeL is) + (bs.length + Oct.sizeL is)) + Oct.sizeL os
end
def Oct.size (o : Oct) : Nat := 1 + wide o.inner + o.inner

theorem cellsL_length (os : List Oct) : (Oct.cellsL os).length = os.length := by rw [cellsL_map, List.length_map]

theorem cellsL_get {os : List Oct} {i : Nat} (h : i < os.length) : (Oct.cellsL os)[i]? = some (os[i]).cells := by
  rw [cellsL_map, List.getElem?_map, List.getElem?_eq_getElem h]; rfl

mutual
theorem Oct.bd0 (n : Nat) : ∀ o : Oct, ∀ e ∈ o.cells0, Bd n e
  | .mk t bs is, e, he => by
    simp only [Oct.cells0, octA, List.mem_cons, List.not_mem_nil, or_false] at he
    rcases he with rfl | rfl | rfl
    · exact .int
    · exact bd_bytes n bs
    · exact .sl (fun _ _ e => by cases e) (Oct.bdL n is)
theorem Oct.bdL (n : Nat) : ∀ os : List Oct, ∀ x ∈ Oct.cellsL os, ∀ e ∈ x, Bd n e
  | [], x, hx => by simp [Oct.cellsL] at hx
  | o :: os, x, hx => by
    simp only [Oct.cellsL, List.mem_cons] at hx
    rcases hx with rfl | hx
    · exact Oct.bd0 n o
    · exact Oct.bdL n os x hx
end
theorem Oct.bd (n : Nat) (o : Oct) : ∀ e ∈ o.cells, Bd n e := by rw [← cells_eq]; exact Oct.bd0 n o
theorem Oct.bdA (n : Nat) (o : Oct) : Bd n (.agg o.cells) := .agg (Oct.bd n o)
end Go.Gp.Tryd
