/- Part of a proof: GpR1, GpR2 -/
import Derived.Test.YtmacdhglhafldaaK12
import Derived.Test.YtmacdhglhafldaaK19

/- The reference's octets: bytes, lengths, numbers. -/
namespace Go.Gp.Try
open Go.Proofs
set_option linter.unusedVariables false
set_option linter.unusedSimpArgs false
set_option maxHeartbeats 4000000
set_option maxRecDepth 100000

theorem bytes_get {x : List UInt8} {i : Nat} (h : i < x.length) : (x.map byteRow)[((i : Nat) : Int).toNat]? = some (byteRow x[i]) := by
  rw [Int.toNat_natCast, List.getElem?_map, List.getElem?_eq_getElem h]; rfl

theorem sameBytes_A (x y : List UInt8) (tg tg' : Tag) (H : List AObj) (hx : x.length ≤ 1125899906842624) :
    CallsA E 17 [.sl tg 1 (x.map byteRow), .sl tg' 1 (y.map byteRow)] H (Is H (.bool (x == y))) := by
  have hlx : (x.map byteRow).length = x.length := List.length_map _
  have hly : (y.map byteRow).length = y.length := List.length_map _
  refine .enter Try.func17 rfl rfl rfl 26 Try.ntmps17 (Nat.le_of_ble_eq_true rfl) ?_
  repeat' first
    | refine WpA.seq ?_
    | refine WpA.region ?_
    | refine WpOps.op _ rfl rfl rfl rfl rfl ?_
    | refine WpOps.box _ rfl rfl rfl rfl rfl ?_
    | refine WpOps.alloc _ rfl rfl rfl rfl rfl rfl ?_
    | refine WpOps.store rfl rfl rfl rfl rfl rfl rfl rfl rfl rfl ?_
    | refine WpOps.skip rfl rfl rfl ?_
    | refine WpOps.build _ rfl rfl rfl rfl rfl ?_
    | refine WpOps.sh _ rfl rfl rfl rfl rfl ?_
    | refine WpOps.gsplit _ rfl rfl rfl (fun h => ?_) (fun h => ?_)
    | refine WpA.block ?_
    | refine WpA.exit ?_
    | refine WpOps.nil ?_
    | refine WpA.ret ?_
    | refine WpA.skip ?_
    | refine WpA.condT rfl ?_
    | refine WpA.condF rfl ?_
    | refine WpA.cond _ rfl (fun h => ?_) (fun h => ?_)
    | refine WpA.draw (by kernel_rfl) ?_
    | refine LexA.op _ rfl rfl rfl rfl rfl ?_
    | refine LexA.skip rfl rfl rfl ?_
    | refine LexA.build _ rfl rfl rfl rfl rfl ?_
    | refine LexA.sh _ rfl rfl rfl rfl rfl ?_
    | refine LexA.gsplit _ rfl rfl rfl (fun h => ?_) (fun h => ?_)
    | refine LexA.nil ?_
  · refine retK.ok rfl rfl (congrArg AV.bool ?_) .bool
    simp only [hlx, hly, bne_iff_ne, ne_eq] at h
    symm
    rw [beq_eq_false_iff_ne]
    intro e; subst e; exact h rfl
  · have hl : x.length = y.length := by simp only [hlx, hly, bne_eq_false_iff_eq] at h; omega
    clear h
    refine WpA.loopFor x.length (fun i => [(0, .sl tg 1 (x.map byteRow)), (1, .sl tg' 1 (y.map byteRow)), (5, .int .i64 (i : Nat))]) (fun _ => H ++ []) (fun i => x.take i = y.take i) rfl ⟨rfl, rfl, rfl, trivial⟩ rfl (fun i hi hok => ?_) (fun hok => ?_)
    · repeat' first
        | refine WpA.seq ?_
        | refine WpA.region ?_
        | refine WpOps.op _ rfl rfl rfl rfl rfl ?_
        | refine WpOps.box _ rfl rfl rfl rfl rfl ?_
        | refine WpOps.alloc _ rfl rfl rfl rfl rfl rfl ?_
        | refine WpOps.store rfl rfl rfl rfl rfl rfl rfl rfl rfl rfl ?_
        | refine WpOps.skip rfl rfl rfl ?_
        | refine WpOps.build _ rfl rfl rfl rfl rfl ?_
        | refine WpOps.sh _ rfl rfl rfl rfl rfl ?_
        | (refine LexA.elem (byteRow x[i]) rfl rfl rfl rfl rfl rfl rfl rfl rfl (Int.natCast_nonneg i) (bytes_get hi) ?_)
        | (refine LexA.elem (byteRow (y[i]'(by omega))) rfl rfl rfl rfl rfl rfl rfl rfl rfl (Int.natCast_nonneg i) (bytes_get (by omega)) ?_)
        | refine WpOps.gsplit _ rfl rfl rfl (fun h => ?_) (fun h => ?_)
        | refine WpA.block ?_
        | refine WpA.exit ?_
        | refine WpOps.nil ?_
        | refine WpA.ret ?_
        | refine WpA.skip ?_
        | refine WpA.condT rfl ?_
        | refine WpA.condF rfl ?_
        | refine WpA.cond _ rfl (fun h => ?_) (fun h => ?_)
        | refine WpA.draw (by kernel_rfl) ?_
        | refine LexA.op _ rfl rfl rfl rfl rfl ?_
        | refine LexA.skip rfl rfl rfl ?_
        | refine LexA.build _ rfl rfl rfl rfl rfl ?_
        | refine LexA.sh _ rfl rfl rfl rfl rfl ?_
        | refine LexA.gsplit _ rfl rfl rfl (fun h => ?_) (fun h => ?_)
        | refine LexA.nil ?_
      · refine retK.ok rfl rfl (congrArg AV.bool ?_) .bool
        rw [u8_bne, Bool.not_eq_true'] at h
        symm
        rw [beq_eq_false_iff_ne]
        intro e; subst e
        simp at h
      · rw [u8_bne, Bool.not_eq_false'] at h
        have he : x[i] = y[i]'(by omega) := by simpa using h
        refine ⟨?_, ⟨rfl, rfl, congrArg (AV.int .i64) (wrap64 (by omega) (by omega)), trivial⟩, rfl⟩
        rw [List.take_succ_eq_append_getElem hi, List.take_succ_eq_append_getElem (by omega), hok, he]
      · simp only [hlx, decide_eq_false_iff_not] at *
        omega
    · repeat' first
        | refine WpA.seq ?_
        | refine WpA.region ?_
        | refine WpOps.op _ rfl rfl rfl rfl rfl ?_
        | refine WpOps.box _ rfl rfl rfl rfl rfl ?_
        | refine WpOps.alloc _ rfl rfl rfl rfl rfl rfl ?_
        | refine WpOps.store rfl rfl rfl rfl rfl rfl rfl rfl rfl rfl ?_
        | refine WpOps.skip rfl rfl rfl ?_
        | refine WpOps.build _ rfl rfl rfl rfl rfl ?_
        | refine WpOps.sh _ rfl rfl rfl rfl rfl ?_
        | refine WpOps.gsplit _ rfl rfl rfl (fun h => ?_) (fun h => ?_)
        | refine WpA.block ?_
        | refine WpA.exit ?_
        | refine WpOps.nil ?_
        | refine WpA.ret ?_
        | refine WpA.skip ?_
        | refine WpA.condT rfl ?_
        | refine WpA.condF rfl ?_
        | refine WpA.cond _ rfl (fun h => ?_) (fun h => ?_)
        | refine WpA.draw (by kernel_rfl) ?_
        | refine LexA.op _ rfl rfl rfl rfl rfl ?_
        | refine LexA.skip rfl rfl rfl ?_
        | refine LexA.build _ rfl rfl rfl rfl rfl ?_
        | refine LexA.sh _ rfl rfl rfl rfl rfl ?_
        | refine LexA.gsplit _ rfl rfl rfl (fun h => ?_) (fun h => ?_)
        | refine LexA.nil ?_
      · simp only [hlx, decide_eq_true_eq] at *
        omega
      · refine retK.ok rfl rfl (congrArg AV.bool ?_) .bool
        rw [List.take_length, hl, List.take_length] at hok
        rw [hok]; simp

/-- A length as the reference writes it. -/
def rLen (n : Nat) : List UInt8 := if n < 128 then [UInt8.ofNat n] else if n < 256 then [129, UInt8.ofNat n] else if n < 65536 then [130, UInt8.ofNat (n / 256), UInt8.ofNat n] else [131, UInt8.ofNat (n / 65536), UInt8.ofNat (n / 256), UInt8.ofNat n]

theorem wrap_of (x : Nat) : IntKind.u8.wrap (x : Int) = ((UInt8.ofNat x).toNat : Int) := by
  rw [UInt8.toNat_ofNat']
  simp only [IntKind.wrap, IntKind.bits, IntKind.signed]
  simp

theorem tdiv_nat (n m : Nat) : (n : Int).tdiv (m : Int) = ((n / m : Nat) : Int) := rfl
theorem tmod_nat (n m : Nat) : (n : Int).tmod (m : Int) = ((n % m : Nat) : Int) := rfl

theorem rLength_A (n : Nat) (H : List AObj) (hn : n < 4611686018427387904) : CallsA E 52 [.int .i64 (n : Nat)] H (Is H (.sl .no 1 ((rLen n).map byteRow))) := by
  have q1 : IntKind.u8.wrap (IntKind.i64.wrap ((n : Int).tdiv (255 + 1))) = ((UInt8.ofNat (n / 256)).toNat : Int) := by
    rw [show (n : Int).tdiv (255 + 1) = ((n / 256 : Nat) : Int) from tdiv_nat n 256, wrap64 (by omega) (by omega), wrap_of]
  have q2 : IntKind.u8.wrap (IntKind.i64.wrap ((n : Int).tdiv (65535 + 1))) = ((UInt8.ofNat (n / 65536)).toNat : Int) := by
    rw [show (n : Int).tdiv (65535 + 1) = ((n / 65536 : Nat) : Int) from tdiv_nat n 65536, wrap64 (by omega) (by omega), wrap_of]
  have q3 : IntKind.u8.wrap ((n : Int).tmod (255 + 1)) = ((UInt8.ofNat n).toNat : Int) := by
    rw [show (n : Int).tmod (255 + 1) = ((n % 256 : Nat) : Int) from tmod_nat n 256, wrap_of]
    congr 2
    exact UInt8.toNat_inj.1 (by simp [UInt8.toNat_ofNat'])
  have q4 : IntKind.u8.wrap ((IntKind.i64.wrap ((n : Int).tdiv (255 + 1))).tmod (255 + 1)) = ((UInt8.ofNat (n / 256)).toNat : Int) := by
    rw [show (n : Int).tdiv (255 + 1) = ((n / 256 : Nat) : Int) from tdiv_nat n 256, wrap64 (by omega) (by omega)]
    rw [show ((n / 256 : Nat) : Int).tmod (255 + 1) = ((n / 256 % 256 : Nat) : Int) from tmod_nat _ 256, wrap_of]
    congr 2
    exact UInt8.toNat_inj.1 (by simp [UInt8.toNat_ofNat'])
  have sub : ∀ (xs ys : List (List AV)), xs = ys → Sub (.sl .full 1 xs) (.sl .no 1 ys) := fun xs ys e => by subst e; exact Sub.untag
  refine .enter Try.func52 rfl rfl rfl 33 Try.ntmps52 (Nat.le_of_ble_eq_true rfl) ?_
  obtain ⟨b1, h1⟩ : ∃ b, decide ((n : Int) < 128) = b := ⟨_, rfl⟩
  obtain ⟨b2, h2⟩ : ∃ b, decide ((n : Int) < 256) = b := ⟨_, rfl⟩
  obtain ⟨b3, h3⟩ : ∃ b, decide ((n : Int) < 65536) = b := ⟨_, rfl⟩
  repeat' first
    | refine WpA.seq ?_
    | refine WpA.region ?_
    | refine WpOps.op _ rfl rfl rfl rfl rfl ?_
    | refine WpOps.box _ rfl rfl rfl rfl rfl ?_
    | refine WpOps.alloc _ rfl rfl rfl rfl rfl rfl ?_
    | refine WpOps.store rfl rfl rfl rfl rfl rfl rfl rfl rfl rfl ?_
    | refine WpOps.skip rfl rfl rfl ?_
    | refine WpOps.build _ rfl rfl rfl rfl rfl ?_
    | refine WpOps.sh _ rfl rfl rfl rfl rfl ?_
    | (refine WpOps.quo _ rfl rfl rfl rfl rfl ?_)
    | (refine WpOps.buildSlice _ rfl rfl rfl rfl rfl rfl rfl rfl rfl rfl rfl ?_)
    | refine WpOps.gsplit _ rfl rfl rfl (fun h => ?_) (fun h => ?_)
    | refine WpA.block ?_
    | refine WpA.exit ?_
    | refine WpOps.nil ?_
    | refine WpA.ret ?_
    | refine WpA.skip ?_
    | refine WpA.draw (by kernel_rfl) ?_
    | refine LexA.op _ rfl rfl rfl rfl rfl ?_
    | refine LexA.skip rfl rfl rfl ?_
    | refine LexA.build _ rfl rfl rfl rfl rfl ?_
    | refine LexA.sh _ rfl rfl rfl rfl rfl ?_
    | refine LexA.gsplit _ rfl rfl rfl (fun h => ?_) (fun h => ?_)
    | refine LexA.nil ?_
  refine WpA.cond b1 (congrArg AV.bool h1) (fun h => ?_) (fun h => ?_)
  · subst h
    have h1 := of_decide_eq_true h1
    repeat' first
      | refine WpA.seq ?_
      | refine WpA.region ?_
      | refine WpOps.op _ rfl rfl rfl rfl rfl ?_
      | refine WpOps.box _ rfl rfl rfl rfl rfl ?_
      | refine WpOps.alloc _ rfl rfl rfl rfl rfl rfl ?_
      | refine WpOps.store rfl rfl rfl rfl rfl rfl rfl rfl rfl rfl ?_
      | refine WpOps.skip rfl rfl rfl ?_
      | refine WpOps.build _ rfl rfl rfl rfl rfl ?_
      | refine WpOps.sh _ rfl rfl rfl rfl rfl ?_
      | (refine WpOps.quo _ rfl rfl rfl rfl rfl ?_)
      | (refine WpOps.buildSlice _ rfl rfl rfl rfl rfl rfl rfl rfl rfl rfl rfl ?_)
      | refine WpOps.gsplit _ rfl rfl rfl (fun h => ?_) (fun h => ?_)
      | refine WpA.block ?_
      | refine WpA.exit ?_
      | refine WpOps.nil ?_
      | refine WpA.ret ?_
      | refine WpA.skip ?_
      | refine WpA.draw (by kernel_rfl) ?_
      | refine LexA.op _ rfl rfl rfl rfl rfl ?_
      | refine LexA.skip rfl rfl rfl ?_
      | refine LexA.build _ rfl rfl rfl rfl rfl ?_
      | refine LexA.sh _ rfl rfl rfl rfl rfl ?_
      | refine LexA.gsplit _ rfl rfl rfl (fun h => ?_) (fun h => ?_)
      | refine LexA.nil ?_
    refine retK.sub (.inr rfl) rfl (TrOk.refl H) (L := _) rfl rfl (sub _ ((rLen n).map byteRow) ?_) (bd_slB _) ⟨rfl, rfl⟩
    rw [rLen, if_pos (by omega)]
    exact congrArg (fun x => [[AV.int .u8 x]]) (wrap_of n)
  subst h
  have h1 := of_decide_eq_false h1
  repeat' first
    | refine WpA.seq ?_
    | refine WpA.region ?_
    | refine WpOps.op _ rfl rfl rfl rfl rfl ?_
    | refine WpOps.box _ rfl rfl rfl rfl rfl ?_
    | refine WpOps.alloc _ rfl rfl rfl rfl rfl rfl ?_
    | refine WpOps.store rfl rfl rfl rfl rfl rfl rfl rfl rfl rfl ?_
    | refine WpOps.skip rfl rfl rfl ?_
    | refine WpOps.build _ rfl rfl rfl rfl rfl ?_
    | refine WpOps.sh _ rfl rfl rfl rfl rfl ?_
    | (refine WpOps.quo _ rfl rfl rfl rfl rfl ?_)
    | (refine WpOps.buildSlice _ rfl rfl rfl rfl rfl rfl rfl rfl rfl rfl rfl ?_)
    | refine WpOps.gsplit _ rfl rfl rfl (fun h => ?_) (fun h => ?_)
    | refine WpA.block ?_
    | refine WpA.exit ?_
    | refine WpOps.nil ?_
    | refine WpA.ret ?_
    | refine WpA.skip ?_
    | refine WpA.draw (by kernel_rfl) ?_
    | refine LexA.op _ rfl rfl rfl rfl rfl ?_
    | refine LexA.skip rfl rfl rfl ?_
    | refine LexA.build _ rfl rfl rfl rfl rfl ?_
    | refine LexA.sh _ rfl rfl rfl rfl rfl ?_
    | refine LexA.gsplit _ rfl rfl rfl (fun h => ?_) (fun h => ?_)
    | refine LexA.nil ?_
  refine WpA.cond b2 (congrArg AV.bool h2) (fun h => ?_) (fun h => ?_)
  · subst h
    have h2 := of_decide_eq_true h2
    repeat' first
      | refine WpA.seq ?_
      | refine WpA.region ?_
      | refine WpOps.op _ rfl rfl rfl rfl rfl ?_
      | refine WpOps.box _ rfl rfl rfl rfl rfl ?_
      | refine WpOps.alloc _ rfl rfl rfl rfl rfl rfl ?_
      | refine WpOps.store rfl rfl rfl rfl rfl rfl rfl rfl rfl rfl ?_
      | refine WpOps.skip rfl rfl rfl ?_
      | refine WpOps.build _ rfl rfl rfl rfl rfl ?_
      | refine WpOps.sh _ rfl rfl rfl rfl rfl ?_
      | (refine WpOps.quo _ rfl rfl rfl rfl rfl ?_)
      | (refine WpOps.buildSlice _ rfl rfl rfl rfl rfl rfl rfl rfl rfl rfl rfl ?_)
      | refine WpOps.gsplit _ rfl rfl rfl (fun h => ?_) (fun h => ?_)
      | refine WpA.block ?_
      | refine WpA.exit ?_
      | refine WpOps.nil ?_
      | refine WpA.ret ?_
      | refine WpA.skip ?_
      | refine WpA.draw (by kernel_rfl) ?_
      | refine LexA.op _ rfl rfl rfl rfl rfl ?_
      | refine LexA.skip rfl rfl rfl ?_
      | refine LexA.build _ rfl rfl rfl rfl rfl ?_
      | refine LexA.sh _ rfl rfl rfl rfl rfl ?_
      | refine LexA.gsplit _ rfl rfl rfl (fun h => ?_) (fun h => ?_)
      | refine LexA.nil ?_
    refine retK.sub (.inr rfl) rfl (TrOk.refl H) (L := _) rfl rfl (sub _ ((rLen n).map byteRow) ?_) (bd_slB _) ⟨rfl, rfl⟩
    rw [rLen, if_neg (by omega), if_pos (by omega)]
    exact congrArg (fun x => [[AV.int .u8 129], [AV.int .u8 x]]) (wrap_of n)
  subst h
  have h2 := of_decide_eq_false h2
  repeat' first
    | refine WpA.seq ?_
    | refine WpA.region ?_
    | refine WpOps.op _ rfl rfl rfl rfl rfl ?_
    | refine WpOps.box _ rfl rfl rfl rfl rfl ?_
    | refine WpOps.alloc _ rfl rfl rfl rfl rfl rfl ?_
    | refine WpOps.store rfl rfl rfl rfl rfl rfl rfl rfl rfl rfl ?_
    | refine WpOps.skip rfl rfl rfl ?_
    | refine WpOps.build _ rfl rfl rfl rfl rfl ?_
    | refine WpOps.sh _ rfl rfl rfl rfl rfl ?_
    | (refine WpOps.quo _ rfl rfl rfl rfl rfl ?_)
    | (refine WpOps.buildSlice _ rfl rfl rfl rfl rfl rfl rfl rfl rfl rfl rfl ?_)
    | refine WpOps.gsplit _ rfl rfl rfl (fun h => ?_) (fun h => ?_)
    | refine WpA.block ?_
    | refine WpA.exit ?_
    | refine WpOps.nil ?_
    | refine WpA.ret ?_
    | refine WpA.skip ?_
    | refine WpA.draw (by kernel_rfl) ?_
    | refine LexA.op _ rfl rfl rfl rfl rfl ?_
    | refine LexA.skip rfl rfl rfl ?_
    | refine LexA.build _ rfl rfl rfl rfl rfl ?_
    | refine LexA.sh _ rfl rfl rfl rfl rfl ?_
    | refine LexA.gsplit _ rfl rfl rfl (fun h => ?_) (fun h => ?_)
    | refine LexA.nil ?_
  refine WpA.cond b3 (congrArg AV.bool h3) (fun h => ?_) (fun h => ?_)
  · subst h
    have h3 := of_decide_eq_true h3
    repeat' first
      | refine WpA.seq ?_
      | refine WpA.region ?_
      | refine WpOps.op _ rfl rfl rfl rfl rfl ?_
      | refine WpOps.box _ rfl rfl rfl rfl rfl ?_
      | refine WpOps.alloc _ rfl rfl rfl rfl rfl rfl ?_
      | refine WpOps.store rfl rfl rfl rfl rfl rfl rfl rfl rfl rfl ?_
      | refine WpOps.skip rfl rfl rfl ?_
      | refine WpOps.build _ rfl rfl rfl rfl rfl ?_
      | refine WpOps.sh _ rfl rfl rfl rfl rfl ?_
      | (refine WpOps.quo _ rfl rfl rfl rfl rfl ?_)
      | (refine WpOps.buildSlice _ rfl rfl rfl rfl rfl rfl rfl rfl rfl rfl rfl ?_)
      | refine WpOps.gsplit _ rfl rfl rfl (fun h => ?_) (fun h => ?_)
      | refine WpA.block ?_
      | refine WpA.exit ?_
      | refine WpOps.nil ?_
      | refine WpA.ret ?_
      | refine WpA.skip ?_
      | refine WpA.draw (by kernel_rfl) ?_
      | refine LexA.op _ rfl rfl rfl rfl rfl ?_
      | refine LexA.skip rfl rfl rfl ?_
      | refine LexA.build _ rfl rfl rfl rfl rfl ?_
      | refine LexA.sh _ rfl rfl rfl rfl rfl ?_
      | refine LexA.gsplit _ rfl rfl rfl (fun h => ?_) (fun h => ?_)
      | refine LexA.nil ?_
    refine retK.sub (.inr rfl) rfl (TrOk.refl H) (L := _) rfl rfl (sub _ ((rLen n).map byteRow) ?_) (bd_slB _) ⟨rfl, rfl⟩
    rw [rLen, if_neg (by omega), if_neg (by omega), if_pos (by omega)]
    show [[AV.int .u8 130], [AV.int .u8 (IntKind.u8.wrap (IntKind.i64.wrap ((n : Int).tdiv (255 + 1))))], [AV.int .u8 (IntKind.u8.wrap ((n : Int).tmod (255 + 1)))]] = _
    rw [q1, q3]
    rfl
  · subst h
    have h3 := of_decide_eq_false h3
    repeat' first
      | refine WpA.seq ?_
      | refine WpA.region ?_
      | refine WpOps.op _ rfl rfl rfl rfl rfl ?_
      | refine WpOps.box _ rfl rfl rfl rfl rfl ?_
      | refine WpOps.alloc _ rfl rfl rfl rfl rfl rfl ?_
      | refine WpOps.store rfl rfl rfl rfl rfl rfl rfl rfl rfl rfl ?_
      | refine WpOps.skip rfl rfl rfl ?_
      | refine WpOps.build _ rfl rfl rfl rfl rfl ?_
      | refine WpOps.sh _ rfl rfl rfl rfl rfl ?_
      | (refine WpOps.quo _ rfl rfl rfl rfl rfl ?_)
      | (refine WpOps.buildSlice _ rfl rfl rfl rfl rfl rfl rfl rfl rfl rfl rfl ?_)
      | refine WpOps.gsplit _ rfl rfl rfl (fun h => ?_) (fun h => ?_)
      | refine WpA.block ?_
      | refine WpA.exit ?_
      | refine WpOps.nil ?_
      | refine WpA.ret ?_
      | refine WpA.skip ?_
      | refine WpA.draw (by kernel_rfl) ?_
      | refine LexA.op _ rfl rfl rfl rfl rfl ?_
      | refine LexA.skip rfl rfl rfl ?_
      | refine LexA.build _ rfl rfl rfl rfl rfl ?_
      | refine LexA.sh _ rfl rfl rfl rfl rfl ?_
      | refine LexA.gsplit _ rfl rfl rfl (fun h => ?_) (fun h => ?_)
      | refine LexA.nil ?_
    refine retK.sub (.inr rfl) rfl (TrOk.refl H) (L := _) rfl rfl (sub _ ((rLen n).map byteRow) ?_) (bd_slB _) ⟨rfl, rfl⟩
    rw [rLen, if_neg (by omega), if_neg (by omega), if_neg (by omega)]
    show [[AV.int .u8 131], [AV.int .u8 (IntKind.u8.wrap (IntKind.i64.wrap ((n : Int).tdiv (65535 + 1))))], [AV.int .u8 (IntKind.u8.wrap ((IntKind.i64.wrap ((n : Int).tdiv (255 + 1))).tmod (255 + 1)))], [AV.int .u8 (IntKind.u8.wrap ((n : Int).tmod (255 + 1)))]] = _
    rw [q2, q3, q4]
    rfl

theorem be_zero : be 0 = [] := by
  unfold be bitLen; rfl
theorem be_pos {x : Nat} (h : 0 < x) : be x = be (x / 256) ++ [UInt8.ofNat x] := by
  have snoc : ∀ (n y : Nat), beN y (n + 1) = beN (y / 256) n ++ [UInt8.ofNat y] := by
    intro n
    induction n with
    | zero => intro y; simp [beN]
    | succ n ih =>
      intro y
      rw [beN, ih, beN, List.cons_append, Nat.div_div_eq_div_mul, show 2 ^ (8 * (n + 1)) = 256 * 2 ^ (8 * n) from by rw [show 8 * (n + 1) = 8 + 8 * n from by omega, Nat.pow_add]]
  have hb : (bitLen x + 7) / 8 = (bitLen (x / 256) + 7) / 8 + 1 := by
    by_cases h2 : 256 ≤ x
    · have := bitLen_shift (x := x) (k := 8) h2
      rw [show (2 : Nat) ^ 8 = 256 from rfl] at this
      omega
    · have h3 : x / 256 = 0 := by omega
      have h4 := bitLen_lt (x := x) (k := 8) (by omega)
      have h5 : bitLen (x / 256) = 0 := by rw [h3]; rfl
      have h6 : 0 < bitLen x := by unfold bitLen; rw [if_neg (by omega)]; omega
      omega
  rw [be, hb, snoc, be]

theorem be_len8 {x : Nat} (h : x < 2 ^ 64) : (be x).length ≤ 8 := by
  rw [be, beN_length]
  have := bitLen_lt h
  omega

theorem rBytes_A : ∀ (x : Nat) (H : List AObj), x < 18446744073709551616 →
    CallsA E 70 [.int .u64 (x : Nat)] H (fun e H' => H' = H ++ [.tail ((be x).map byteRow).length 1] ∧ e = .ret (.sl (.row H.length 0) 1 ((be x).map byteRow))) := by
  intro x
  induction x using Nat.strongRecOn with
  | _ x ih =>
  intro H hx
  by_cases h0 : x = 0
  · subst h0
    refine CallsA.adoptR (z0 := 0) ?_
    refine .enter Try.func70 rfl rfl rfl 13 Try.ntmps70 (Nat.le_of_ble_eq_true rfl) ?_
    repeat' first
      | refine WpA.seq ?_
      | refine WpA.region ?_
      | refine WpOps.op _ rfl rfl rfl rfl rfl ?_
      | refine WpOps.box _ rfl rfl rfl rfl rfl ?_
      | refine WpOps.alloc _ rfl rfl rfl rfl rfl rfl ?_
      | refine WpOps.store rfl rfl rfl rfl rfl rfl rfl rfl rfl rfl ?_
      | refine WpOps.skip rfl rfl rfl ?_
      | refine WpOps.build _ rfl rfl rfl rfl rfl ?_
      | refine WpOps.sh _ rfl rfl rfl rfl rfl ?_
      | refine WpOps.gsplit _ rfl rfl rfl (fun h => ?_) (fun h => ?_)
      | refine WpA.block ?_
      | refine WpA.exit ?_
      | refine WpOps.nil ?_
      | refine WpA.ret ?_
      | refine WpA.skip ?_
      | refine WpA.condT rfl ?_
      | refine WpA.condF rfl ?_
      | refine WpA.cond _ rfl (fun h => ?_) (fun h => ?_)
      | refine WpA.draw (by kernel_rfl) ?_
      | refine LexA.op _ rfl rfl rfl rfl rfl ?_
      | refine LexA.skip rfl rfl rfl ?_
      | refine LexA.build _ rfl rfl rfl rfl rfl ?_
      | refine LexA.sh _ rfl rfl rfl rfl rfl ?_
      | refine LexA.gsplit _ rfl rfl rfl (fun h => ?_) (fun h => ?_)
      | refine LexA.nil ?_
    exact retK.tag (.inr rfl) rfl (TrOk.refl H) (L := []) rfl rfl (.sl (fun _ _ e => by cases e) (by simp)) ⟨rfl, rfl⟩
  · have q1 : IntKind.u64.wrap ((x : Int).tdiv (255 + 1)) = ((x / 256 : Nat) : Int) := by
      rw [show (x : Int).tdiv (255 + 1) = ((x / 256 : Nat) : Int) from tdiv_nat x 256, wrapu64 (by omega) (by omega)]
    have q3 : IntKind.u8.wrap ((x : Int).tmod (255 + 1)) = ((UInt8.ofNat x).toNat : Int) := by
      rw [show (x : Int).tmod (255 + 1) = ((x % 256 : Nat) : Int) from tmod_nat x 256, wrap_of]
      congr 2
      exact UInt8.toNat_inj.1 (by simp [UInt8.toNat_ofNat'])
    have hr := ih (x / 256) (by omega) (H ++ []) (by omega)
    rw [← q1] at hr
    simp only [List.append_nil] at hr
    refine .enter Try.func70 rfl rfl rfl 13 Try.ntmps70 (Nat.le_of_ble_eq_true rfl) ?_
    have hne : ((x : Int) == 0) = false := by simp; omega
    have hcall : CallsA E 70 [.int .u64 (IntKind.u64.wrap ((x : Int).tdiv (255 + 1)))] (H ++ []) (fun e H' => H' = H ++ [.tail ((be (x / 256)).map byteRow).length 1] ∧ e = .ret (.sl (.row H.length 0) 1 ((be (x / 256)).map byteRow))) := by
      rw [List.append_nil]; exact hr
    repeat' first
      | refine WpA.seq ?_
      | refine WpA.region ?_
      | refine WpOps.op _ rfl rfl rfl rfl rfl ?_
      | refine WpOps.box _ rfl rfl rfl rfl rfl ?_
      | refine WpOps.alloc _ rfl rfl rfl rfl rfl rfl ?_
      | refine WpOps.store rfl rfl rfl rfl rfl rfl rfl rfl rfl rfl ?_
      | refine WpOps.skip rfl rfl rfl ?_
      | refine WpOps.build _ rfl rfl rfl rfl rfl ?_
      | refine WpOps.sh _ rfl rfl rfl rfl rfl ?_
      | (refine WpOps.quo _ rfl rfl rfl rfl rfl ?_)
      | refine WpOps.gsplit _ rfl rfl rfl (fun h => ?_) (fun h => ?_)
      | refine WpA.block ?_
      | refine WpA.exit ?_
      | refine WpOps.nil ?_
      | refine WpA.ret ?_
      | refine WpA.skip ?_
      | refine WpA.condT rfl ?_
      | refine WpA.condF rfl ?_
      | refine WpA.draw (by kernel_rfl) ?_
      | refine LexA.op _ rfl rfl rfl rfl rfl ?_
      | refine LexA.skip rfl rfl rfl ?_
      | refine LexA.build _ rfl rfl rfl rfl rfl ?_
      | refine LexA.sh _ rfl rfl rfl rfl rfl ?_
      | refine LexA.gsplit _ rfl rfl rfl (fun h => ?_) (fun h => ?_)
      | refine LexA.nil ?_
    refine WpA.cond false (congrArg AV.bool hne) (fun h => by cases h) (fun h => ?_)
    repeat' first
      | refine WpA.seq ?_
      | refine WpA.region ?_
      | refine WpOps.op _ rfl rfl rfl rfl rfl ?_
      | refine WpOps.box _ rfl rfl rfl rfl rfl ?_
      | refine WpOps.alloc _ rfl rfl rfl rfl rfl rfl ?_
      | refine WpOps.store rfl rfl rfl rfl rfl rfl rfl rfl rfl rfl ?_
      | refine WpOps.skip rfl rfl rfl ?_
      | refine WpOps.build _ rfl rfl rfl rfl rfl ?_
      | refine WpOps.sh _ rfl rfl rfl rfl rfl ?_
      | (refine WpOps.quo _ rfl rfl rfl rfl rfl ?_)
      | (refine WpOps.buildSlice _ rfl rfl rfl rfl rfl rfl rfl rfl rfl rfl rfl ?_)
      | (refine WpOps.call rfl rfl rfl rfl rfl (by exact hcall) ?_; rintro _ _ ⟨rfl, rfl⟩)
      | refine WpOps.gsplit _ rfl rfl rfl (fun h => ?_) (fun h => ?_)
      | refine WpA.block ?_
      | refine WpA.exit ?_
      | refine WpOps.nil ?_
      | refine WpA.ret ?_
      | refine WpA.skip ?_
      | refine WpA.condT rfl ?_
      | refine WpA.condF rfl ?_
      | refine WpA.cond _ rfl (fun h => ?_) (fun h => ?_)
      | refine WpA.draw (by kernel_rfl) ?_
      | refine LexA.op _ rfl rfl rfl rfl rfl ?_
      | refine LexA.skip rfl rfl rfl ?_
      | refine LexA.build _ rfl rfl rfl rfl rfl ?_
      | refine LexA.sh _ rfl rfl rfl rfl rfl ?_
      | refine LexA.gsplit _ rfl rfl rfl (fun h => ?_) (fun h => ?_)
      | refine LexA.nil ?_
    have hln : (be (x / 256)).length ≤ 8 := be_len8 (by omega)
    refine WpOps.appR rfl rfl rfl rfl rfl rfl rfl (fun k h => by cases h) rfl rfl rfl rfl rfl rfl ?_ ?_ ?_
    · intro y hy a ha
      have hy' := List.mem_singleton.1 hy
      subst hy'
      have ha' := List.mem_singleton.1 ha
      subst ha'
      rfl
    · show (((be (x / 256)).map byteRow).length + 1) * 1 ≤ _
      rw [List.length_map]
      omega
    repeat' first
      | refine WpA.seq ?_
      | refine WpA.region ?_
      | refine WpOps.op _ rfl rfl rfl rfl rfl ?_
      | refine WpOps.box _ rfl rfl rfl rfl rfl ?_
      | refine WpOps.alloc _ rfl rfl rfl rfl rfl rfl ?_
      | refine WpOps.store rfl rfl rfl rfl rfl rfl rfl rfl rfl rfl ?_
      | refine WpOps.skip rfl rfl rfl ?_
      | refine WpOps.build _ rfl rfl rfl rfl rfl ?_
      | refine WpOps.sh _ rfl rfl rfl rfl rfl ?_
      | refine WpOps.gsplit _ rfl rfl rfl (fun h => ?_) (fun h => ?_)
      | refine WpA.block ?_
      | refine WpA.exit ?_
      | refine WpOps.nil ?_
      | refine WpA.ret ?_
      | refine WpA.skip ?_
      | refine WpA.condT rfl ?_
      | refine WpA.condF rfl ?_
      | refine WpA.cond _ rfl (fun h => ?_) (fun h => ?_)
      | refine WpA.draw (by kernel_rfl) ?_
      | refine LexA.op _ rfl rfl rfl rfl rfl ?_
      | refine LexA.skip rfl rfl rfl ?_
      | refine LexA.build _ rfl rfl rfl rfl rfl ?_
      | refine LexA.sh _ rfl rfl rfl rfl rfl ?_
      | refine LexA.gsplit _ rfl rfl rfl (fun h => ?_) (fun h => ?_)
      | refine LexA.nil ?_
    refine retK.all (.inr rfl) rfl rfl (r := .sl (.row H.length 0) 1 ((be x).map byteRow)) ?_ ⟨?_, rfl⟩
    · show Sub (.sl (.row H.length 0) 1 ((be (x / 256)).map byteRow ++ [[.int .u8 (IntKind.u8.wrap ((x : Int).tmod (255 + 1)))]])) _
      rw [q3, be_pos (show 0 < x by omega), List.map_append]
      exact Sub.refl _
    · show H ++ [AObj.tail ((be (x / 256)).map byteRow ++ [[AV.int .u8 (IntKind.u8.wrap ((x : Int).tmod (255 + 1)))]]).length 1] = _
      rw [be_pos (show 0 < x by omega)]
      simp

theorem rNum_A (t : UInt8) (x : Nat) (H : List AObj) (hx : x < 18446744073709551616) : CallsA E 54 [u8 t, .int .u64 (x : Nat)] H (Is H (.agg (Oct.mk t (be x) []).cells)) := by
  refine .enter Try.func54 rfl rfl rfl 9 Try.ntmps54 (Nat.le_of_ble_eq_true rfl) ?_
  have hB : ∀ L : List AObj, CallsA E 70 [.int .u64 (x : Nat)] (H ++ L) (fun e H' => H' = H ++ (L ++ [.tail ((be x).map byteRow).length 1]) ∧ e = .ret (.sl (.row (H ++ L).length 0) 1 ((be x).map byteRow))) := fun L => by
    rw [← List.append_assoc]; exact rBytes_A x _ hx
  repeat' first
    | refine WpA.seq ?_
    | refine WpA.region ?_
    | refine WpOps.op _ rfl rfl rfl rfl rfl ?_
    | refine WpOps.box _ rfl rfl rfl rfl rfl ?_
    | refine WpOps.alloc _ rfl rfl rfl rfl rfl rfl ?_
    | refine WpOps.store rfl rfl rfl rfl rfl rfl rfl rfl rfl rfl ?_
    | refine WpOps.skip rfl rfl rfl ?_
    | refine WpOps.build _ rfl rfl rfl rfl rfl ?_
    | refine WpOps.sh _ rfl rfl rfl rfl rfl ?_
    | (refine WpOps.call rfl rfl rfl rfl rfl (by exact hB _) ?_; rintro _ _ ⟨rfl, rfl⟩)
    | refine WpOps.gsplit _ rfl rfl rfl (fun h => ?_) (fun h => ?_)
    | refine WpA.block ?_
    | refine WpA.exit ?_
    | refine WpOps.nil ?_
    | refine WpA.ret ?_
    | refine WpA.skip ?_
    | refine WpA.condT rfl ?_
    | refine WpA.condF rfl ?_
    | refine WpA.cond _ rfl (fun h => ?_) (fun h => ?_)
    | refine WpA.draw (by kernel_rfl) ?_
    | refine LexA.op _ rfl rfl rfl rfl rfl ?_
    | refine LexA.skip rfl rfl rfl ?_
    | refine LexA.build _ rfl rfl rfl rfl rfl ?_
    | refine LexA.sh _ rfl rfl rfl rfl rfl ?_
    | refine LexA.gsplit _ rfl rfl rfl (fun h => ?_) (fun h => ?_)
    | refine LexA.nil ?_
  exact retK.sub (.inr rfl) rfl (TrOk.refl H) (L := _) rfl rfl (Sub.agg (vs := octA t (be x) []) ⟨Sub.refl _, Sub.untag, Sub.empty, trivial⟩) (bd_oct (by simp)) ⟨rfl, rfl⟩

theorem rStr_A (t : UInt8) (s : List UInt8) (H : List AObj) (hl : s.length ≤ 140737488355328) : CallsA E 55 [u8 t, .str s] H (Is H (.agg (Oct.mk t s []).cells)) := by
  refine .enter Try.func55 rfl rfl rfl 9 Try.ntmps55 (Nat.le_of_ble_eq_true rfl) ?_
  repeat' first
    | refine WpA.seq ?_
    | refine WpA.region ?_
    | refine WpOps.op _ rfl rfl rfl rfl rfl ?_
    | refine WpOps.box _ rfl rfl rfl rfl rfl ?_
    | refine WpOps.alloc _ rfl rfl rfl rfl rfl rfl ?_
    | refine WpOps.store rfl rfl rfl rfl rfl rfl rfl rfl rfl rfl ?_
    | refine WpOps.skip rfl rfl rfl ?_
    | refine WpOps.build _ rfl rfl rfl rfl rfl ?_
    | refine WpOps.sh _ rfl rfl rfl rfl rfl ?_
    | refine WpOps.p1 rfl rfl rfl (.strSl rfl rfl rfl rfl rfl hl) ?_
    | refine WpOps.gsplit _ rfl rfl rfl (fun h => ?_) (fun h => ?_)
    | refine WpA.block ?_
    | refine WpA.exit ?_
    | refine WpOps.nil ?_
    | refine WpA.ret ?_
    | refine WpA.skip ?_
    | refine WpA.condT rfl ?_
    | refine WpA.condF rfl ?_
    | refine WpA.cond _ rfl (fun h => ?_) (fun h => ?_)
    | refine WpA.draw (by kernel_rfl) ?_
    | refine LexA.op _ rfl rfl rfl rfl rfl ?_
    | refine LexA.skip rfl rfl rfl ?_
    | refine LexA.build _ rfl rfl rfl rfl rfl ?_
    | refine LexA.sh _ rfl rfl rfl rfl rfl ?_
    | refine LexA.gsplit _ rfl rfl rfl (fun h => ?_) (fun h => ?_)
    | refine LexA.nil ?_
  exact retK.sub (.inr rfl) rfl (TrOk.refl H) (L := _) rfl rfl (Sub.agg (vs := octA t s []) ⟨Sub.refl _, Sub.refl _, Sub.empty, trivial⟩) (bd_oct (by simp)) ⟨rfl, rfl⟩
end Go.Gp.Try

/- The reference's octets: how many, how deep, how great. -/
namespace Go.Gp.Try
open Go.Proofs
set_option linter.unusedVariables false
set_option linter.unusedSimpArgs false
set_option maxHeartbeats 4000000
set_option maxRecDepth 100000

/-- How many values, how deep, and the size as the reference counts it. -/
def Oct.cnt : Oct → Nat
  | .mk _ _ is => 1 + (is.attach.map fun x => x.1.cnt).sum
termination_by o => SizeOf.sizeOf o
decreasing_by have := List.sizeOf_lt_of_mem x.2; simp only [Oct.mk.sizeOf_spec]; omega
def Oct.dep : Oct → Nat
  | .mk _ _ is => 1 + (is.attach.map fun x => x.1.dep).foldl max 0
termination_by o => SizeOf.sizeOf o
decreasing_by have := List.sizeOf_lt_of_mem x.2; simp only [Oct.mk.sizeOf_spec]; omega
def Oct.rsz : Oct → Nat
  | .mk _ bs is => 1 + (rLen (bs.length + (is.attach.map fun x => x.1.rsz).sum)).length + (bs.length + (is.attach.map fun x => x.1.rsz).sum)
termination_by o => SizeOf.sizeOf o
decreasing_by all_goals (have := List.sizeOf_lt_of_mem x.2; simp only [Oct.mk.sizeOf_spec]; omega)
def Oct.shp : Oct → Bool
  | .mk t bs is => (Oct.mk t bs is).good && (is.attach.map fun x => x.1.shp).all id
termination_by o => SizeOf.sizeOf o
decreasing_by have := List.sizeOf_lt_of_mem x.2; simp only [Oct.mk.sizeOf_spec]; omega
theorem cnt_mk (t : UInt8) (bs : List UInt8) (is : List Oct) : (Oct.mk t bs is).cnt = 1 + (is.map Oct.cnt).sum := by rw [Oct.cnt, List.attach_map_val (f := Oct.cnt)]
theorem dep_mk (t : UInt8) (bs : List UInt8) (is : List Oct) : (Oct.mk t bs is).dep = 1 + (is.map Oct.dep).foldl max 0 := by rw [Oct.dep, List.attach_map_val (f := Oct.dep)]
theorem rsz_mk (t : UInt8) (bs : List UInt8) (is : List Oct) : (Oct.mk t bs is).rsz = 1 + (rLen (bs.length + (is.map Oct.rsz).sum)).length + (bs.length + (is.map Oct.rsz).sum) := by rw [Oct.rsz, List.attach_map_val (f := Oct.rsz)]
theorem shp_mk (t : UInt8) (bs : List UInt8) (is : List Oct) : (Oct.mk t bs is).shp = ((Oct.mk t bs is).good && (is.map Oct.shp).all id) := by rw [Oct.shp, List.attach_map_val (f := Oct.shp)]

theorem rLen_le (n : Nat) : (rLen n).length ≤ 4 := by unfold rLen; split <;> (try split) <;> (try split) <;> simp
theorem rLen_pos (n : Nat) : 1 ≤ (rLen n).length := by unfold rLen; split <;> (try split) <;> (try split) <;> simp

theorem sum_take {f : Oct → Nat} {is : List Oct} {i : Nat} (h : i < is.length) : ((is.take (i + 1)).map f).sum = ((is.take i).map f).sum + f is[i] := by
  rw [List.take_succ_eq_append_getElem h, List.map_append, List.sum_append]; simp
theorem sum_le {f : Oct → Nat} {is : List Oct} (i : Nat) : ((is.take i).map f).sum ≤ (is.map f).sum := by
  conv => rhs; rw [← List.take_append_drop i is, List.map_append, List.sum_append]
  omega

/-- A value no count of which is too great for an int. -/
theorem cnt_le_size : ∀ (o : Oct), o.cnt ≤ o.size
  | .mk t bs is => by
    rw [cnt_mk, size_mk]
    have : ∀ (l : List Oct), (∀ x ∈ l, SizeOf.sizeOf x < SizeOf.sizeOf (Oct.mk t bs is)) → (l.map Oct.cnt).sum ≤ Oct.sizeL l := by
      intro l
      induction l with
      | nil => intro _; simp [Oct.sizeL]
      | cons a l ih =>
        intro h
        have h1 := ih fun x hx => h x (List.mem_cons_of_mem _ hx)
        have h2 := h a List.mem_cons_self
        have h3 := cnt_le_size a
        rw [sizeL_cons, List.map_cons, List.sum_cons]
        omega
    have := this is fun x hx => by have := List.sizeOf_lt_of_mem hx; simp only [Oct.mk.sizeOf_spec]; omega
    omega
termination_by o => SizeOf.sizeOf o
decreasing_by assumption

theorem rCount_A : ∀ (o : Oct) (H : List AObj), o.size ≤ 1125899906842624 → CallsA E 74 [.agg o.cells] H (Is H (.int .i64 (o.cnt : Nat)))
  | .mk tg bs is, H, hs => by
    have hs' := cnt_le_size (.mk tg bs is)
    rw [size_mk] at hs
    have ih : ∀ (i : Nat) (h : i < is.length) (H : List AObj), CallsA E 74 [.agg (is[i]).cells] H (Is H (.int .i64 (is[i]).cnt)) := fun i h H => rCount_A is[i] H (by have := size_get h; omega)
    rw [size_mk, cnt_mk] at hs'
    refine .enter Try.func74 rfl rfl rfl 21 Try.ntmps74 (Nat.le_of_ble_eq_true rfl) ?_
    have hli : is.length ≤ Oct.sizeL is := length_le_sizeL is
    repeat' first
      | refine WpA.seq ?_
      | refine WpA.region ?_
      | refine WpOps.op _ rfl rfl rfl rfl rfl ?_
      | refine WpOps.box _ rfl rfl rfl rfl rfl ?_
      | refine WpOps.alloc _ rfl rfl rfl rfl rfl rfl ?_
      | refine WpOps.store rfl rfl rfl rfl rfl rfl rfl rfl rfl rfl ?_
      | refine WpOps.skip rfl rfl rfl ?_
      | refine WpOps.build _ rfl rfl rfl rfl rfl ?_
      | refine WpOps.sh _ rfl rfl rfl rfl rfl ?_
      | refine WpOps.gsplit _ rfl rfl rfl (fun h => ?_) (fun h => ?_)
      | refine WpA.block ?_
      | refine WpA.exit ?_
      | refine WpOps.nil ?_
      | refine WpA.ret ?_
      | refine WpA.skip ?_
      | refine WpA.condT rfl ?_
      | refine WpA.condF rfl ?_
      | refine WpA.cond _ rfl (fun h => ?_) (fun h => ?_)
      | refine WpA.draw (by kernel_rfl) ?_
      | refine LexA.op _ rfl rfl rfl rfl rfl ?_
      | refine LexA.skip rfl rfl rfl ?_
      | refine LexA.build _ rfl rfl rfl rfl rfl ?_
      | refine LexA.sh _ rfl rfl rfl rfl rfl ?_
      | refine LexA.gsplit _ rfl rfl rfl (fun h => ?_) (fun h => ?_)
      | refine LexA.nil ?_
    refine WpA.loopFor is.length (fun i => [(1, .ptr H.length 0 0), (3, .int .i64 ((1 + ((is.take i).map Oct.cnt).sum : Nat) : Int)), (4, .int .i64 (i : Nat))])
      (fun _ => H ++ [.cells (Oct.mk tg bs is).cells]) (fun _ => True) trivial ⟨rfl, rfl, rfl, trivial⟩ rfl (fun i hi _ => ?_) (fun _ => ?_)
    · have hc : (Oct.cellsL is)[((i : Nat) : Int).toNat]? = some (is[i]).cells := by rw [Int.toNat_natCast]; exact cellsL_get hi
      repeat' first
        | refine WpA.seq ?_
        | refine WpA.region ?_
        | refine WpOps.op _ rfl rfl rfl rfl rfl ?_
        | refine WpOps.box _ rfl rfl rfl rfl rfl ?_
        | refine WpOps.alloc _ rfl rfl rfl rfl rfl rfl ?_
        | refine WpOps.store rfl rfl rfl rfl rfl rfl rfl rfl rfl rfl ?_
        | refine WpOps.skip rfl rfl rfl ?_
        | refine WpOps.build _ rfl rfl rfl rfl rfl ?_
        | refine WpOps.sh _ rfl rfl rfl rfl rfl ?_
        | (refine WpOps.call rfl rfl rfl rfl rfl (by exact ih i hi _) ?_; rintro _ _ ⟨rfl, rfl⟩)
        | refine WpOps.elem (is[i]).cells rfl rfl rfl rfl rfl rfl rfl rfl rfl (Int.natCast_nonneg i) hc ?_
        | refine WpOps.gsplit _ rfl rfl rfl (fun h => ?_) (fun h => ?_)
        | refine WpA.block ?_
        | refine WpA.exit ?_
        | refine WpOps.nil ?_
        | refine WpA.ret ?_
        | refine WpA.skip ?_
        | refine WpA.condT rfl ?_
        | refine WpA.condF rfl ?_
        | refine WpA.cond _ rfl (fun h => ?_) (fun h => ?_)
        | refine WpA.draw (by kernel_rfl) ?_
        | refine LexA.op _ rfl rfl rfl rfl rfl ?_
        | refine LexA.skip rfl rfl rfl ?_
        | refine LexA.build _ rfl rfl rfl rfl rfl ?_
        | refine LexA.sh _ rfl rfl rfl rfl rfl ?_
        | refine LexA.call rfl rfl rfl rfl rfl (by exact ih i hi _) ?_
        | refine LexA.gsplit _ rfl rfl rfl (fun h => ?_) (fun h => ?_)
        | refine LexA.nil ?_
      · refine ⟨trivial, ⟨rfl, congrArg (AV.int .i64) ?_, congrArg (AV.int .i64) (wrap64 (by omega) (by omega)), trivial⟩, rfl⟩
        have h1 := sum_take (f := Oct.cnt) hi
        have h2 := sum_le (f := Oct.cnt) (is := is) (i + 1)
        show IntKind.i64.wrap (((1 + ((is.take i).map Oct.cnt).sum : Nat) : Int) + ((is[i]).cnt : Nat)) = _
        rw [wrap64 (by omega) (by omega)]
        omega
      · have := cellsL_length is
        simp only [decide_eq_false_iff_not] at h
        exfalso
        have h' : ¬ ((i : Int) < (((Oct.cellsL is).length : Nat) : Int)) := h
        omega
    · repeat' first
        | refine WpA.seq ?_
        | refine WpA.region ?_
        | refine WpOps.op _ rfl rfl rfl rfl rfl ?_
        | refine WpOps.box _ rfl rfl rfl rfl rfl ?_
        | refine WpOps.alloc _ rfl rfl rfl rfl rfl rfl ?_
        | refine WpOps.store rfl rfl rfl rfl rfl rfl rfl rfl rfl rfl ?_
        | refine WpOps.skip rfl rfl rfl ?_
        | refine WpOps.build _ rfl rfl rfl rfl rfl ?_
        | refine WpOps.sh _ rfl rfl rfl rfl rfl ?_
        | refine WpOps.gsplit _ rfl rfl rfl (fun h => ?_) (fun h => ?_)
        | refine WpA.block ?_
        | refine WpA.exit ?_
        | refine WpOps.nil ?_
        | refine WpA.ret ?_
        | refine WpA.skip ?_
        | refine WpA.condT rfl ?_
        | refine WpA.condF rfl ?_
        | refine WpA.cond _ rfl (fun h => ?_) (fun h => ?_)
        | refine WpA.draw (by kernel_rfl) ?_
        | refine LexA.op _ rfl rfl rfl rfl rfl ?_
        | refine LexA.skip rfl rfl rfl ?_
        | refine LexA.build _ rfl rfl rfl rfl rfl ?_
        | refine LexA.sh _ rfl rfl rfl rfl rfl ?_
        | refine LexA.gsplit _ rfl rfl rfl (fun h => ?_) (fun h => ?_)
        | refine LexA.nil ?_
      · have := cellsL_length is
        have h' : ((is.length : Nat) : Int) < (((Oct.cellsL is).length : Nat) : Int) := of_decide_eq_true h
        exfalso
        omega
      · rw [cnt_mk]
        refine retK.ok rfl rfl (congrArg (AV.int .i64) ?_) .int
        rw [List.take_length]
termination_by o => SizeOf.sizeOf o
decreasing_by exact sizeOf_get h

theorem fmax_take {f : Oct → Nat} {is : List Oct} {i : Nat} (h : i < is.length) : ((is.take (i + 1)).map f).foldl max 0 = max (((is.take i).map f).foldl max 0) (f is[i]) := by
  rw [List.take_succ_eq_append_getElem h, List.map_append, List.foldl_append]; rfl

theorem fmax_le_sum {f : Oct → Nat} : ∀ (is : List Oct) (a : Nat), (is.map f).foldl max a ≤ a + (is.map f).sum
  | [], a => by simp
  | x :: is, a => by
    have := fmax_le_sum (f := f) is (max a (f x))
    simp only [List.map_cons, List.foldl_cons, List.sum_cons]
    omega

theorem dep_le_size : ∀ (o : Oct), o.dep ≤ o.size
  | .mk t bs is => by
    rw [dep_mk, size_mk]
    have : ∀ (l : List Oct), (∀ x ∈ l, SizeOf.sizeOf x < SizeOf.sizeOf (Oct.mk t bs is)) → (l.map Oct.dep).sum ≤ Oct.sizeL l := by
      intro l
      induction l with
      | nil => intro _; simp [Oct.sizeL]
      | cons a l ih =>
        intro h
        have h1 := ih fun x hx => h x (List.mem_cons_of_mem _ hx)
        have h2 := h a List.mem_cons_self
        have h3 := dep_le_size a
        rw [sizeL_cons, List.map_cons, List.sum_cons]
        omega
    have h1 := this is fun x hx => by have := List.sizeOf_lt_of_mem hx; simp only [Oct.mk.sizeOf_spec]; omega
    have h2 := fmax_le_sum (f := Oct.dep) is 0
    omega
termination_by o => SizeOf.sizeOf o
decreasing_by assumption

theorem dep_get {is : List Oct} {i : Nat} (h : i < is.length) : is[i].dep ≤ is[i].size := dep_le_size _

theorem rDepth_A : ∀ (o : Oct) (H : List AObj), o.size ≤ 1125899906842624 → CallsA E 75 [.agg o.cells] H (Is H (.int .i64 (o.dep : Nat)))
  | .mk tg bs is, H, hs => by
    have hd := dep_le_size (.mk tg bs is)
    rw [size_mk] at hs
    have ih : ∀ (i : Nat) (h : i < is.length) (H : List AObj), CallsA E 75 [.agg (is[i]).cells] H (Is H (.int .i64 (is[i]).dep)) := fun i h H => rDepth_A is[i] H (by have := size_get h; omega)
    rw [size_mk, dep_mk] at hd
    refine .enter Try.func75 rfl rfl rfl 22 Try.ntmps75 (Nat.le_of_ble_eq_true rfl) ?_
    have hli : is.length ≤ Oct.sizeL is := length_le_sizeL is
    repeat' first
      | refine WpA.seq ?_
      | refine WpA.region ?_
      | refine WpOps.op _ rfl rfl rfl rfl rfl ?_
      | refine WpOps.box _ rfl rfl rfl rfl rfl ?_
      | refine WpOps.alloc _ rfl rfl rfl rfl rfl rfl ?_
      | refine WpOps.store rfl rfl rfl rfl rfl rfl rfl rfl rfl rfl ?_
      | refine WpOps.skip rfl rfl rfl ?_
      | refine WpOps.build _ rfl rfl rfl rfl rfl ?_
      | refine WpOps.sh _ rfl rfl rfl rfl rfl ?_
      | refine WpOps.gsplit _ rfl rfl rfl (fun h => ?_) (fun h => ?_)
      | refine WpA.block ?_
      | refine WpA.exit ?_
      | refine WpOps.nil ?_
      | refine WpA.ret ?_
      | refine WpA.skip ?_
      | refine WpA.condT rfl ?_
      | refine WpA.condF rfl ?_
      | refine WpA.cond _ rfl (fun h => ?_) (fun h => ?_)
      | refine WpA.draw (by kernel_rfl) ?_
      | refine LexA.op _ rfl rfl rfl rfl rfl ?_
      | refine LexA.skip rfl rfl rfl ?_
      | refine LexA.build _ rfl rfl rfl rfl rfl ?_
      | refine LexA.sh _ rfl rfl rfl rfl rfl ?_
      | refine LexA.gsplit _ rfl rfl rfl (fun h => ?_) (fun h => ?_)
      | refine LexA.nil ?_
    refine WpA.loopFor is.length (fun i => [(1, .ptr H.length 0 0), (3, .int .i64 ((((is.take i).map Oct.dep).foldl max 0 : Nat) : Int)), (4, .int .i64 (i : Nat))])
      (fun _ => H ++ [.cells (Oct.mk tg bs is).cells]) (fun _ => True) trivial ⟨rfl, rfl, rfl, trivial⟩ rfl (fun i hi _ => ?_) (fun _ => ?_)
    · have hc : (Oct.cellsL is)[((i : Nat) : Int).toNat]? = some (is[i]).cells := by rw [Int.toNat_natCast]; exact cellsL_get hi
      repeat' first
        | refine WpA.seq ?_
        | refine WpA.region ?_
        | refine WpOps.op _ rfl rfl rfl rfl rfl ?_
        | refine WpOps.box _ rfl rfl rfl rfl rfl ?_
        | refine WpOps.alloc _ rfl rfl rfl rfl rfl rfl ?_
        | refine WpOps.store rfl rfl rfl rfl rfl rfl rfl rfl rfl rfl ?_
        | refine WpOps.skip rfl rfl rfl ?_
        | refine WpOps.build _ rfl rfl rfl rfl rfl ?_
        | refine WpOps.sh _ rfl rfl rfl rfl rfl ?_
        | (refine WpOps.call rfl rfl rfl rfl rfl (by exact ih i hi _) ?_; rintro _ _ ⟨rfl, rfl⟩)
        | (refine WpOps.elem (is[i]).cells rfl rfl rfl rfl rfl rfl rfl rfl rfl (Int.natCast_nonneg i) hc ?_)
        | (refine WpOps.p1 rfl rfl rfl (.maxI rfl rfl rfl) ?_)
        | refine WpOps.gsplit _ rfl rfl rfl (fun h => ?_) (fun h => ?_)
        | refine WpA.block ?_
        | refine WpA.exit ?_
        | refine WpOps.nil ?_
        | refine WpA.ret ?_
        | refine WpA.skip ?_
        | refine WpA.condT rfl ?_
        | refine WpA.condF rfl ?_
        | refine WpA.cond _ rfl (fun h => ?_) (fun h => ?_)
        | refine WpA.draw (by kernel_rfl) ?_
        | refine LexA.op _ rfl rfl rfl rfl rfl ?_
        | refine LexA.skip rfl rfl rfl ?_
        | refine LexA.build _ rfl rfl rfl rfl rfl ?_
        | refine LexA.sh _ rfl rfl rfl rfl rfl ?_
        | refine LexA.call rfl rfl rfl rfl rfl (by exact ih i hi _) ?_
        | refine LexA.gsplit _ rfl rfl rfl (fun h => ?_) (fun h => ?_)
        | refine LexA.nil ?_
      · refine ⟨trivial, ⟨rfl, congrArg (AV.int .i64) ?_, congrArg (AV.int .i64) (wrap64 (by omega) (by omega)), trivial⟩, rfl⟩
        rw [fmax_take hi]
        split <;> omega
      · have := cellsL_length is
        have h' : ¬ ((i : Int) < (((Oct.cellsL is).length : Nat) : Int)) := of_decide_eq_false h
        exfalso
        omega
    · repeat' first
        | refine WpA.seq ?_
        | refine WpA.region ?_
        | refine WpOps.op _ rfl rfl rfl rfl rfl ?_
        | refine WpOps.box _ rfl rfl rfl rfl rfl ?_
        | refine WpOps.alloc _ rfl rfl rfl rfl rfl rfl ?_
        | refine WpOps.store rfl rfl rfl rfl rfl rfl rfl rfl rfl rfl ?_
        | refine WpOps.skip rfl rfl rfl ?_
        | refine WpOps.build _ rfl rfl rfl rfl rfl ?_
        | refine WpOps.sh _ rfl rfl rfl rfl rfl ?_
        | refine WpOps.gsplit _ rfl rfl rfl (fun h => ?_) (fun h => ?_)
        | refine WpA.block ?_
        | refine WpA.exit ?_
        | refine WpOps.nil ?_
        | refine WpA.ret ?_
        | refine WpA.skip ?_
        | refine WpA.condT rfl ?_
        | refine WpA.condF rfl ?_
        | refine WpA.cond _ rfl (fun h => ?_) (fun h => ?_)
        | refine WpA.draw (by kernel_rfl) ?_
        | refine LexA.op _ rfl rfl rfl rfl rfl ?_
        | refine LexA.skip rfl rfl rfl ?_
        | refine LexA.build _ rfl rfl rfl rfl rfl ?_
        | refine LexA.sh _ rfl rfl rfl rfl rfl ?_
        | refine LexA.gsplit _ rfl rfl rfl (fun h => ?_) (fun h => ?_)
        | refine LexA.nil ?_
      · have := cellsL_length is
        have h' : ((is.length : Nat) : Int) < (((Oct.cellsL is).length : Nat) : Int) := of_decide_eq_true h
        exfalso
        omega
      · rw [dep_mk]
        refine retK.ok rfl rfl (congrArg (AV.int .i64) ?_) .int
        rw [List.take_length]
        rw [wrap64 (by omega) (by omega)]
        omega
termination_by o => SizeOf.sizeOf o
decreasing_by exact sizeOf_get h

/-- The size as the reference counts it is at most the size. -/
theorem rsz_le_size : ∀ (o : Oct), o.rsz ≤ o.size ∧ (o.rsz ≤ 65536 → o.rsz = o.size)
  | .mk t bs is => by
    rw [rsz_mk, size_mk]
    have hL : ∀ (l : List Oct), (∀ x ∈ l, SizeOf.sizeOf x < SizeOf.sizeOf (Oct.mk t bs is)) → (l.map Oct.rsz).sum ≤ Oct.sizeL l ∧ ((l.map Oct.rsz).sum ≤ 65536 → (l.map Oct.rsz).sum = Oct.sizeL l) := by
      intro l
      induction l with
      | nil => intro _; simp [Oct.sizeL]
      | cons a l ih =>
        intro h
        have h1 := ih fun x hx => h x (List.mem_cons_of_mem _ hx)
        have h2 := h a List.mem_cons_self
        have h3 := rsz_le_size a
        rw [sizeL_cons, List.map_cons, List.sum_cons]
        exact ⟨by omega, fun h => by have := h1.2 (by omega); have := h3.2 (by omega); omega⟩
    have h1 := hL is fun x hx => by have := List.sizeOf_lt_of_mem hx; simp only [Oct.mk.sizeOf_spec]; omega
    -- the lengths
    have hw : ∀ n, n < 16777216 → (rLen n).length = wide n := by
      intro n hn
      unfold rLen wide
      by_cases a1 : n < 128
      · rw [if_pos a1, if_pos a1]; rfl
      · rw [if_neg a1, if_neg a1]
        have b0 : bitLen n = bitLen (n / 2 ^ 7) + 7 := bitLen_shift (k := 7) (by omega)
        by_cases a2 : n < 256
        · rw [if_pos a2]
          have b1 := bitLen_lt (x := n) (k := 8) (by omega)
          have b2 : 0 < bitLen (n / 2 ^ 7) := by unfold bitLen; rw [if_neg (by omega)]; omega
          show 2 = _
          omega
        · rw [if_neg a2]
          have c0 : bitLen n = bitLen (n / 2 ^ 8) + 8 := bitLen_shift (k := 8) (by omega)
          have c2 : 0 < bitLen (n / 2 ^ 8) := by unfold bitLen; rw [if_neg (by omega)]; omega
          by_cases a3 : n < 65536
          · rw [if_pos a3]
            have b1 := bitLen_lt (x := n) (k := 16) (by omega)
            show 3 = _
            omega
          · rw [if_neg a3]
            have d0 : bitLen n = bitLen (n / 2 ^ 16) + 16 := bitLen_shift (k := 16) (by omega)
            have d2 : 0 < bitLen (n / 2 ^ 16) := by unfold bitLen; rw [if_neg (by omega)]; omega
            have b1 := bitLen_lt (x := n) (k := 24) (by omega)
            show 4 = _
            omega
    have hge : ∀ n, 16777216 ≤ n → 4 ≤ wide n := by
      intro n hn
      unfold wide
      rw [if_neg (by omega)]
      have d0 : bitLen n = bitLen (n / 2 ^ 24) + 24 := bitLen_shift (k := 24) (by omega)
      have d2 : 0 < bitLen (n / 2 ^ 24) := by unfold bitLen; rw [if_neg (by omega)]; omega
      omega
    have hwm : ∀ a b, a ≤ b → (rLen a).length ≤ wide b := by
      intro a b hab
      have mono : (rLen a).length ≤ (rLen b).length := by
        unfold rLen
        repeat' split
        all_goals first | omega | simp
      by_cases hb : b < 16777216
      · rw [← hw b hb]; exact mono
      · have := hge b (by omega); have := rLen_le a; omega
    refine ⟨?_, fun h => ?_⟩
    · have := hwm (bs.length + (is.map Oct.rsz).sum) (bs.length + Oct.sizeL is) (by omega)
      omega
    · have h2 := h1.2 (by omega)
      rw [h2] at h ⊢
      rw [hw _ (by omega)]
termination_by o => SizeOf.sizeOf o
decreasing_by assumption

theorem rSize_A : ∀ (o : Oct) (H : List AObj), o.size ≤ 1125899906842624 → CallsA E 77 [.agg o.cells] H (Is H (.int .i64 (o.rsz : Nat)))
  | .mk tg bs is, H, hs => by
    have hr := (rsz_le_size (.mk tg bs is)).1
    have hs2 := hs
    rw [size_mk] at hs
    have ih : ∀ (i : Nat) (h : i < is.length) (H : List AObj), CallsA E 77 [.agg (is[i]).cells] H (Is H (.int .i64 (is[i]).rsz)) := fun i h H => rSize_A is[i] H (by have := size_get h; omega)
    rw [rsz_mk] at hr
    refine .enter Try.func77 rfl rfl rfl 29 Try.ntmps77 (Nat.le_of_ble_eq_true rfl) ?_
    have hli : is.length ≤ Oct.sizeL is := length_le_sizeL is
    repeat' first
      | refine WpA.seq ?_
      | refine WpA.region ?_
      | refine WpOps.op _ rfl rfl rfl rfl rfl ?_
      | refine WpOps.box _ rfl rfl rfl rfl rfl ?_
      | refine WpOps.alloc _ rfl rfl rfl rfl rfl rfl ?_
      | refine WpOps.store rfl rfl rfl rfl rfl rfl rfl rfl rfl rfl ?_
      | refine WpOps.skip rfl rfl rfl ?_
      | refine WpOps.build _ rfl rfl rfl rfl rfl ?_
      | refine WpOps.sh _ rfl rfl rfl rfl rfl ?_
      | refine WpOps.gsplit _ rfl rfl rfl (fun h => ?_) (fun h => ?_)
      | refine WpA.block ?_
      | refine WpA.exit ?_
      | refine WpOps.nil ?_
      | refine WpA.ret ?_
      | refine WpA.skip ?_
      | refine WpA.condT rfl ?_
      | refine WpA.condF rfl ?_
      | refine WpA.cond _ rfl (fun h => ?_) (fun h => ?_)
      | refine WpA.draw (by kernel_rfl) ?_
      | refine LexA.op _ rfl rfl rfl rfl rfl ?_
      | refine LexA.skip rfl rfl rfl ?_
      | refine LexA.build _ rfl rfl rfl rfl rfl ?_
      | refine LexA.sh _ rfl rfl rfl rfl rfl ?_
      | refine LexA.gsplit _ rfl rfl rfl (fun h => ?_) (fun h => ?_)
      | refine LexA.nil ?_
    refine WpA.loopFor is.length (fun i => [(1, .ptr H.length 0 0), (3, .int .i64 ((bs.length + ((is.take i).map Oct.rsz).sum : Nat) : Int)), (4, .int .i64 (i : Nat))])
      (fun _ => H ++ [.cells (Oct.mk tg bs is).cells]) (fun _ => True) trivial ⟨rfl, ?_, rfl, trivial⟩ rfl (fun i hi _ => ?_) (fun _ => ?_)
    · show AV.int .i64 ((bs.map byteRow).length : Nat) = _
      simp
    · have hc : (Oct.cellsL is)[((i : Nat) : Int).toNat]? = some (is[i]).cells := by rw [Int.toNat_natCast]; exact cellsL_get hi
      repeat' first
        | refine WpA.seq ?_
        | refine WpA.region ?_
        | refine WpOps.op _ rfl rfl rfl rfl rfl ?_
        | refine WpOps.box _ rfl rfl rfl rfl rfl ?_
        | refine WpOps.alloc _ rfl rfl rfl rfl rfl rfl ?_
        | refine WpOps.store rfl rfl rfl rfl rfl rfl rfl rfl rfl rfl ?_
        | refine WpOps.skip rfl rfl rfl ?_
        | refine WpOps.build _ rfl rfl rfl rfl rfl ?_
        | refine WpOps.sh _ rfl rfl rfl rfl rfl ?_
        | (refine WpOps.call rfl rfl rfl rfl rfl (by exact ih i hi _) ?_; rintro _ _ ⟨rfl, rfl⟩)
        | refine WpOps.elem (is[i]).cells rfl rfl rfl rfl rfl rfl rfl rfl rfl (Int.natCast_nonneg i) hc ?_
        | refine WpOps.gsplit _ rfl rfl rfl (fun h => ?_) (fun h => ?_)
        | refine WpA.block ?_
        | refine WpA.exit ?_
        | refine WpOps.nil ?_
        | refine WpA.ret ?_
        | refine WpA.skip ?_
        | refine WpA.condT rfl ?_
        | refine WpA.condF rfl ?_
        | refine WpA.cond _ rfl (fun h => ?_) (fun h => ?_)
        | refine WpA.draw (by kernel_rfl) ?_
        | refine LexA.op _ rfl rfl rfl rfl rfl ?_
        | refine LexA.skip rfl rfl rfl ?_
        | refine LexA.build _ rfl rfl rfl rfl rfl ?_
        | refine LexA.sh _ rfl rfl rfl rfl rfl ?_
        | refine LexA.call rfl rfl rfl rfl rfl (by exact ih i hi _) ?_
        | refine LexA.gsplit _ rfl rfl rfl (fun h => ?_) (fun h => ?_)
        | refine LexA.nil ?_
      · refine ⟨trivial, ⟨rfl, congrArg (AV.int .i64) ?_, congrArg (AV.int .i64) (wrap64 (by omega) (by omega)), trivial⟩, rfl⟩
        have h1 := sum_take (f := Oct.rsz) hi
        have h2 := sum_le (f := Oct.rsz) (is := is) (i + 1)
        show IntKind.i64.wrap (((bs.length + ((is.take i).map Oct.rsz).sum : Nat) : Int) + ((is[i]).rsz : Nat)) = _
        rw [wrap64 (by omega) (by omega)]
        omega
      · have := cellsL_length is
        have h' : ¬ ((i : Int) < (((Oct.cellsL is).length : Nat) : Int)) := of_decide_eq_false h
        exfalso
        omega
    · have hLn : ∀ H, CallsA E 52 [.int .i64 ((bs.length + ((is.take is.length).map Oct.rsz).sum : Nat) : Int)] H (Is H (.sl .no 1 ((rLen (bs.length + (is.map Oct.rsz).sum)).map byteRow))) := fun H => by
        rw [List.take_length]; exact rLength_A _ H (by omega)
      have hl4 := rLen_le (bs.length + (is.map Oct.rsz).sum)
      repeat' first
        | refine WpA.seq ?_
        | refine WpA.region ?_
        | refine WpOps.op _ rfl rfl rfl rfl rfl ?_
        | refine WpOps.box _ rfl rfl rfl rfl rfl ?_
        | refine WpOps.alloc _ rfl rfl rfl rfl rfl rfl ?_
        | refine WpOps.store rfl rfl rfl rfl rfl rfl rfl rfl rfl rfl ?_
        | refine WpOps.skip rfl rfl rfl ?_
        | refine WpOps.build _ rfl rfl rfl rfl rfl ?_
        | refine WpOps.sh _ rfl rfl rfl rfl rfl ?_
        | (refine WpOps.call rfl rfl rfl rfl rfl (by exact hLn _) ?_; rintro _ _ ⟨rfl, rfl⟩)
        | refine WpOps.gsplit _ rfl rfl rfl (fun h => ?_) (fun h => ?_)
        | refine WpA.block ?_
        | refine WpA.exit ?_
        | refine WpOps.nil ?_
        | refine WpA.ret ?_
        | refine WpA.skip ?_
        | refine WpA.condT rfl ?_
        | refine WpA.condF rfl ?_
        | refine WpA.cond _ rfl (fun h => ?_) (fun h => ?_)
        | refine WpA.draw (by kernel_rfl) ?_
        | refine LexA.op _ rfl rfl rfl rfl rfl ?_
        | refine LexA.skip rfl rfl rfl ?_
        | refine LexA.build _ rfl rfl rfl rfl rfl ?_
        | refine LexA.sh _ rfl rfl rfl rfl rfl ?_
        | refine LexA.call rfl rfl rfl rfl rfl (by exact hLn _) ?_
        | refine LexA.gsplit _ rfl rfl rfl (fun h => ?_) (fun h => ?_)
        | refine LexA.nil ?_
      · have := cellsL_length is
        have h' : ((is.length : Nat) : Int) < (((Oct.cellsL is).length : Nat) : Int) := of_decide_eq_true h
        exfalso
        omega
      · rw [rsz_mk]
        refine retK.ok rfl rfl (congrArg (AV.int .i64) ?_) .int
        rw [List.length_map, List.take_length, wrap64 (x := 1 + _) (by omega) (by omega), wrap64 (by omega) (by omega)]
        omega
termination_by o => SizeOf.sizeOf o
decreasing_by exact sizeOf_get h
end Go.Gp.Try
