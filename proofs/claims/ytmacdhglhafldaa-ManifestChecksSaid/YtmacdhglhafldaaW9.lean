/- The manifest's checks: Find, both; the law's own function. -/
import Derived.Test.YtmacdhglhafldaaW8
namespace Go.Gp.Try
open Go.Proofs
set_option linter.unusedVariables false
set_option linter.unusedSimpArgs false
set_option maxHeartbeats 4000000

theorem in_A (m : Man) (y : List UInt8) (H : List AObj) (hb : m.fs.length ≤ 1000000000000000) :
    CallsA E 21 [m.av .no, .str y] H (fun x H' => H' = H ∧ ∃ p, x = .ret (.int .i64 p) ∧ ((∃ k : Nat, p = (k : Int) ∧ k < m.fs.length ∧ nm m.fs k = y) ∨ (p = -1 ∧ ∀ k, k < m.fs.length → nm m.fs k ≠ y))) := by
  refine .enter Try.func21 rfl rfl rfl 22 Try.ntmps21 (Nat.le_of_ble_eq_true rfl) ?_
  repeat' first
    | refine WpA.seq ?_
    | refine WpA.region ?_
    | refine WpOps.op _ rfl rfl rfl rfl rfl ?_
    | refine WpOps.box _ rfl rfl rfl rfl rfl ?_
    | refine WpOps.alloc _ rfl rfl rfl rfl rfl rfl ?_
    | refine WpOps.store rfl rfl rfl rfl rfl rfl rfl rfl rfl rfl ?_
    | refine WpOps.skip rfl rfl rfl ?_
    | refine WpOps.build _ rfl rfl rfl rfl rfl ?_
    | refine WpOps.sh _ rfl rfl rfl rfl rfl ?_
    | refine WpOps.gsplit _ rfl rfl rfl (fun h => ?_) (fun h => ?_)
    | refine WpA.block ?_
    | refine WpA.exit ?_
    | refine WpOps.nil ?_
    | refine WpA.ret ?_
    | refine WpA.skip ?_
    | refine WpA.condT rfl ?_
    | refine WpA.condF rfl ?_
    | refine WpA.cond _ rfl (fun h => ?_) (fun h => ?_)
    | refine WpA.draw (by kernel_rfl) ?_
    | refine LexA.op _ rfl rfl rfl rfl rfl ?_
    | refine LexA.skip rfl rfl rfl ?_
    | refine LexA.build _ rfl rfl rfl rfl rfl ?_
    | refine LexA.sh _ rfl rfl rfl rfl rfl ?_
    | refine LexA.gsplit _ rfl rfl rfl (fun h => ?_) (fun h => ?_)
    | refine LexA.nil ?_
  refine WpA.loopS (α := Nat) (fun i => [(2, .ptr H.length 0 0), (1, .str y), (5, .int .i64 i)]) (fun _ => H ++ [AObj.cells (m.cells .no)]) (fun i => i ≤ m.fs.length ∧ ∀ k, k < i → nm m.fs k ≠ y) (fun i => m.fs.length - i) 0 ⟨Nat.zero_le _, fun k h => by omega⟩ ⟨rfl, rfl, rfl, trivial⟩ rfl ?_
  rintro i ⟨hi, hu⟩
  repeat' first
    | refine WpA.seq ?_
    | refine WpA.region ?_
    | refine WpOps.op _ rfl rfl rfl rfl rfl ?_
    | refine WpOps.box _ rfl rfl rfl rfl rfl ?_
    | refine WpOps.alloc _ rfl rfl rfl rfl rfl rfl ?_
    | refine WpOps.store rfl rfl rfl rfl rfl rfl rfl rfl rfl rfl ?_
    | refine WpOps.skip rfl rfl rfl ?_
    | refine WpOps.build _ rfl rfl rfl rfl rfl ?_
    | refine WpOps.sh _ rfl rfl rfl rfl rfl ?_
    | refine WpOps.gsplit _ rfl rfl rfl (fun h => ?_) (fun h => ?_)
    | refine WpA.block ?_
    | refine WpA.exit ?_
    | refine WpOps.nil ?_
    | refine WpA.ret ?_
    | refine WpA.skip ?_
    | refine WpA.condT rfl ?_
    | refine WpA.condF rfl ?_
    | refine WpA.cond _ rfl (fun h => ?_) (fun h => ?_)
    | refine WpA.draw (by kernel_rfl) ?_
    | refine LexA.op _ rfl rfl rfl rfl rfl ?_
    | refine LexA.skip rfl rfl rfl ?_
    | refine LexA.build _ rfl rfl rfl rfl rfl ?_
    | refine LexA.sh _ rfl rfl rfl rfl rfl ?_
    | refine LexA.gsplit _ rfl rfl rfl (fun h => ?_) (fun h => ?_)
    | refine LexA.nil ?_
  · simp [rows_length] at h
    have hlt : i < m.fs.length := h
    clear h
    have hwi : IntKind.i64.wrap ((i : Int) + 1) = ((i + 1 : Nat) : Int) := wrap64 (by omega) (by omega)
    refine WpOps.elem (m.fs[i]).row rfl rfl rfl rfl rfl rfl rfl rfl rfl (Int.natCast_nonneg _) (rows_get hlt) ?_
    repeat' first
      | refine WpA.seq ?_
      | refine WpA.region ?_
      | refine WpOps.op _ rfl rfl rfl rfl rfl ?_
      | refine WpOps.box _ rfl rfl rfl rfl rfl ?_
      | refine WpOps.alloc _ rfl rfl rfl rfl rfl rfl ?_
      | refine WpOps.store rfl rfl rfl rfl rfl rfl rfl rfl rfl rfl ?_
      | refine WpOps.skip rfl rfl rfl ?_
      | refine WpOps.build _ rfl rfl rfl rfl rfl ?_
      | refine WpOps.sh _ rfl rfl rfl rfl rfl ?_
      | refine WpOps.gsplit _ rfl rfl rfl (fun h => ?_) (fun h => ?_)
      | refine WpA.block ?_
      | refine WpA.exit ?_
      | refine WpOps.nil ?_
      | refine WpA.ret ?_
      | refine WpA.skip ?_
      | refine WpA.condT rfl ?_
      | refine WpA.condF rfl ?_
      | refine WpA.cond _ rfl (fun h => ?_) (fun h => ?_)
      | refine WpA.draw (by kernel_rfl) ?_
      | refine LexA.op _ rfl rfl rfl rfl rfl ?_
      | refine LexA.skip rfl rfl rfl ?_
      | refine LexA.build _ rfl rfl rfl rfl rfl ?_
      | refine LexA.sh _ rfl rfl rfl rfl rfl ?_
      | refine LexA.gsplit _ rfl rfl rfl (fun h => ?_) (fun h => ?_)
      | refine LexA.nil ?_
    · refine retK.ok' (.inr rfl) rfl rfl .int ⟨rfl, _, rfl, .inl ⟨i, rfl, hlt, ?_⟩⟩
      rw [nm_eq hlt]
      simpa using h
    · refine ⟨i + 1, ⟨hlt, fun k hk => ?_⟩, by omega, ⟨rfl, rfl, congrArg (AV.int .i64) hwi, trivial⟩, rfl⟩
      rcases Nat.lt_or_ge k i with h1 | h1
      · exact hu k h1
      · have : k = i := by omega
        subst this
        rw [nm_eq hlt]
        simpa using h
  · simp [rows_length] at h
    exact retK.ok' (.inr rfl) rfl rfl .int ⟨rfl, _, rfl, .inr ⟨rfl, fun k hk => hu k (by omega)⟩⟩

def zeroHash : List AV := List.replicate 32 (.int .u8 0)
def seek (m : Man) (y : List UInt8) : Option File := m.fs.find? (·.name == y)
def findByte (m : Man) (y : List UInt8) : Nat → Int := if check m = 0 then match seek m y with | some f => fun i => (f.h i).toNat | none => fun _ => 0 else fun _ => 0
def findHash (m : Man) (y : List UInt8) : List AV := (List.range 32).map fun i => .int .u8 (findByte m y i)
def findCode (m : Man) (y : List UInt8) : Int := if check m = 0 then match seek m y with | some _ => 0 | none => 6 else check m

theorem check_ok {m : Man} (h : check m = 0) : Sorted m.fs := by
  refine sorted_of ?_
  unfold check at h
  split at h
  · cases h
  · split at h
    · rename_i h1
      rw [manOk, Bool.and_eq_true] at h1
      exact h1.2
    · cases h

theorem seek_some {m : Man} {y : List UInt8} {k : Nat} (hs : Sorted m.fs) (hk : k < m.fs.length) (h : nm m.fs k = y) : seek m y = some m.fs[k] := by
  unfold seek
  rw [List.find?_eq_some_iff_getElem]
  refine ⟨by rw [← nm_eq hk, h]; simp, k, hk, rfl, fun j hj => ?_⟩
  rw [← nm_eq (by omega)]
  have := hs j k hj hk
  rw [h] at this
  simp only [Bool.not_eq_true', beq_eq_false_iff_ne, ne_eq]
  intro e
  rw [e, lt_irrefl] at this
  cases this

theorem seek_none {m : Man} {y : List UInt8} (h : ∀ k, k < m.fs.length → nm m.fs k ≠ y) : seek m y = none := by
  unfold seek
  rw [List.find?_eq_none]
  intro f hf
  obtain ⟨k, hk⟩ := List.getElem?_of_mem hf
  obtain ⟨hlt, rfl⟩ := List.getElem?_eq_some_iff.1 hk
  have := h k hlt
  rw [nm_eq hlt] at this
  simpa using this

theorem bdFind (n : Nat) (f : File) (a : Int) : Bd n (.tup [.agg f.hash, .int .i64 a]) := .tup fun e he => by
  simp only [List.mem_cons, List.not_mem_nil, or_false] at he
  rcases he with rfl | rfl
  · refine .agg fun e he => ?_
    obtain ⟨v, rfl⟩ := hash_int f e he
    exact .int
  · exact .int
theorem bdZero (n : Nat) (a : Int) : Bd n (.tup [.agg zeroHash, .int .i64 a]) := .tup fun e he => by
  simp only [List.mem_cons, List.not_mem_nil, or_false] at he
  rcases he with rfl | rfl
  · refine .agg fun e he => ?_
    obtain ⟨_, rfl⟩ := List.mem_replicate.1 he
    exact .int
  · exact .int

def findAV (m : Man) (y : List UInt8) : AV := .tup [.agg (findHash m y), .int .i64 (findCode m y)]

theorem Find_A (m : Man) (y : List UInt8) (H : List AObj) (hb : m.fs.length ≤ 1000000000000000) : CallsA E 7 [m.av .no, .str y] H (Is H (findAV m y)) := by
  refine .enter Try.func7 rfl rfl rfl 31 Try.ntmps7 (Nat.le_of_ble_eq_true rfl) ?_
  repeat' first
    | refine WpA.seq ?_
    | refine WpA.region ?_
    | refine WpOps.op _ rfl rfl rfl rfl rfl ?_
    | refine WpOps.box _ rfl rfl rfl rfl rfl ?_
    | refine WpOps.alloc _ rfl rfl rfl rfl rfl rfl ?_
    | refine WpOps.store rfl rfl rfl rfl rfl rfl rfl rfl rfl rfl ?_
    | refine WpOps.skip rfl rfl rfl ?_
    | refine WpOps.build _ rfl rfl rfl rfl rfl ?_
    | refine WpOps.sh _ rfl rfl rfl rfl rfl ?_
    | (refine WpOps.call rfl rfl rfl rfl rfl (by exact Check_A _ _ hb) ?_; rintro _ _ ⟨rfl, rfl⟩)
    | refine WpOps.gsplit _ rfl rfl rfl (fun h => ?_) (fun h => ?_)
    | refine WpA.block ?_
    | refine WpA.exit ?_
    | refine WpOps.nil ?_
    | refine WpA.ret ?_
    | refine WpA.skip ?_
    | refine WpA.condT rfl ?_
    | refine WpA.condF rfl ?_
    | refine WpA.cond _ rfl (fun h => ?_) (fun h => ?_)
    | refine WpA.draw (by kernel_rfl) ?_
    | refine LexA.op _ rfl rfl rfl rfl rfl ?_
    | refine LexA.skip rfl rfl rfl ?_
    | refine LexA.build _ rfl rfl rfl rfl rfl ?_
    | refine LexA.sh _ rfl rfl rfl rfl rfl ?_
    | refine LexA.call rfl rfl rfl rfl rfl (by exact Check_A _ _ hb) ?_
    | refine LexA.gsplit _ rfl rfl rfl (fun h => ?_) (fun h => ?_)
    | refine LexA.nil ?_
  · have hc : check m ≠ 0 := by simpa [bne] using h
    have e : findAV m y = .tup [.agg zeroHash, .int .i64 (check m)] := by rw [findAV, findHash, findCode, findByte, if_neg hc, if_neg hc]; rfl
    rw [e]
    exact retK.ok rfl rfl rfl (bdZero _ _)
  · have hc : check m = 0 := by simpa [bne] using h
    have hs := check_ok hc
    refine WpOps.call rfl rfl rfl rfl rfl (by exact Search_A _ _ _ hb hs) ?_
    rintro _ _ ⟨rfl, p, b, rfl, hf1, hf2⟩
    dsimp only
    repeat' first
      | refine WpA.seq ?_
      | refine WpA.region ?_
      | refine WpOps.op _ rfl rfl rfl rfl rfl ?_
      | refine WpOps.box _ rfl rfl rfl rfl rfl ?_
      | refine WpOps.alloc _ rfl rfl rfl rfl rfl rfl ?_
      | refine WpOps.store rfl rfl rfl rfl rfl rfl rfl rfl rfl rfl ?_
      | refine WpOps.skip rfl rfl rfl ?_
      | refine WpOps.build _ rfl rfl rfl rfl rfl ?_
      | refine WpOps.sh _ rfl rfl rfl rfl rfl ?_
      | refine WpOps.gsplit _ rfl rfl rfl (fun h => ?_) (fun h => ?_)
      | refine WpA.block ?_
      | refine WpA.exit ?_
      | refine WpOps.nil ?_
      | refine WpA.ret ?_
      | refine WpA.skip ?_
      | refine WpA.condT rfl ?_
      | refine WpA.condF rfl ?_
      | refine WpA.cond _ rfl (fun h => ?_) (fun h => ?_)
      | refine WpA.draw (by kernel_rfl) ?_
      | refine LexA.op _ rfl rfl rfl rfl rfl ?_
      | refine LexA.skip rfl rfl rfl ?_
      | refine LexA.build _ rfl rfl rfl rfl rfl ?_
      | refine LexA.sh _ rfl rfl rfl rfl rfl ?_
      | refine LexA.gsplit _ rfl rfl rfl (fun h => ?_) (fun h => ?_)
      | refine LexA.nil ?_
    · rw [Bool.not_eq_true'] at h
      subst h
      have e : findAV m y = .tup [.agg zeroHash, .int .i64 6] := by rw [findAV, findHash, findCode, findByte, if_pos hc, if_pos hc, seek_none (hf2 rfl)]; rfl
      rw [e]
      exact retK.ok rfl rfl rfl (bdZero _ _)
    · rw [Bool.not_eq_false'] at h
      subst h
      obtain ⟨k, rfl, hk1, hk2⟩ := hf1 rfl
      have e : findAV m y = .tup [.agg (m.fs[k]).hash, .int .i64 0] := by rw [findAV, findHash, findCode, findByte, if_pos hc, if_pos hc, seek_some hs hk1 hk2]; rfl
      rw [e]
      refine WpOps.elem (m.fs[k]).row rfl rfl rfl rfl rfl rfl rfl rfl rfl (Int.natCast_nonneg _) (rows_get hk1) ?_
      repeat' first
        | refine WpA.seq ?_
        | refine WpA.region ?_
        | refine WpOps.op _ rfl rfl rfl rfl rfl ?_
        | refine WpOps.box _ rfl rfl rfl rfl rfl ?_
        | refine WpOps.alloc _ rfl rfl rfl rfl rfl rfl ?_
        | refine WpOps.store rfl rfl rfl rfl rfl rfl rfl rfl rfl rfl ?_
        | refine WpOps.skip rfl rfl rfl ?_
        | refine WpOps.build _ rfl rfl rfl rfl rfl ?_
        | refine WpOps.sh _ rfl rfl rfl rfl rfl ?_
        | refine WpOps.gsplit _ rfl rfl rfl (fun h => ?_) (fun h => ?_)
        | refine WpA.block ?_
        | refine WpA.exit ?_
        | refine WpOps.nil ?_
        | refine WpA.ret ?_
        | refine WpA.skip ?_
        | refine WpA.condT rfl ?_
        | refine WpA.condF rfl ?_
        | refine WpA.cond _ rfl (fun h => ?_) (fun h => ?_)
        | refine WpA.draw (by kernel_rfl) ?_
        | refine LexA.op _ rfl rfl rfl rfl rfl ?_
        | refine LexA.skip rfl rfl rfl ?_
        | refine LexA.build _ rfl rfl rfl rfl rfl ?_
        | refine LexA.sh _ rfl rfl rfl rfl rfl ?_
        | refine LexA.gsplit _ rfl rfl rfl (fun h => ?_) (fun h => ?_)
        | refine LexA.nil ?_
      exact retK.ok rfl rfl rfl (bdFind _ _ _)

theorem refFind_A (m : Man) (y : List UInt8) (H : List AObj) (hb : m.fs.length ≤ 1000000000000000) : CallsA E 8 [m.av .no, .str y] H (Is H (findAV m y)) := by
  refine .enter Try.func8 rfl rfl rfl 26 Try.ntmps8 (Nat.le_of_ble_eq_true rfl) ?_
  repeat' first
    | refine WpA.seq ?_
    | refine WpA.region ?_
    | refine WpOps.op _ rfl rfl rfl rfl rfl ?_
    | refine WpOps.box _ rfl rfl rfl rfl rfl ?_
    | refine WpOps.alloc _ rfl rfl rfl rfl rfl rfl ?_
    | refine WpOps.store rfl rfl rfl rfl rfl rfl rfl rfl rfl rfl ?_
    | refine WpOps.skip rfl rfl rfl ?_
    | refine WpOps.build _ rfl rfl rfl rfl rfl ?_
    | refine WpOps.sh _ rfl rfl rfl rfl rfl ?_
    | (refine WpOps.call rfl rfl rfl rfl rfl (by exact refCheck_A _ _ hb) ?_; rintro _ _ ⟨rfl, rfl⟩)
    | refine WpOps.gsplit _ rfl rfl rfl (fun h => ?_) (fun h => ?_)
    | refine WpA.block ?_
    | refine WpA.exit ?_
    | refine WpOps.nil ?_
    | refine WpA.ret ?_
    | refine WpA.skip ?_
    | refine WpA.condT rfl ?_
    | refine WpA.condF rfl ?_
    | refine WpA.cond _ rfl (fun h => ?_) (fun h => ?_)
    | refine WpA.draw (by kernel_rfl) ?_
    | refine LexA.op _ rfl rfl rfl rfl rfl ?_
    | refine LexA.skip rfl rfl rfl ?_
    | refine LexA.build _ rfl rfl rfl rfl rfl ?_
    | refine LexA.sh _ rfl rfl rfl rfl rfl ?_
    | refine LexA.call rfl rfl rfl rfl rfl (by exact refCheck_A _ _ hb) ?_
    | refine LexA.gsplit _ rfl rfl rfl (fun h => ?_) (fun h => ?_)
    | refine LexA.nil ?_
  · have hc : check m ≠ 0 := by simpa [bne] using h
    have e : findAV m y = .tup [.agg zeroHash, .int .i64 (check m)] := by rw [findAV, findHash, findCode, findByte, if_neg hc, if_neg hc]; rfl
    rw [e]
    exact retK.ok rfl rfl rfl (bdZero _ _)
  · have hc : check m = 0 := by simpa [bne] using h
    have hs := check_ok hc
    refine WpOps.call rfl rfl rfl rfl rfl (by exact in_A _ _ _ hb) ?_
    rintro _ _ ⟨rfl, p, rfl, hf⟩
    dsimp only
    repeat' first
      | refine WpA.seq ?_
      | refine WpA.region ?_
      | refine WpOps.op _ rfl rfl rfl rfl rfl ?_
      | refine WpOps.box _ rfl rfl rfl rfl rfl ?_
      | refine WpOps.alloc _ rfl rfl rfl rfl rfl rfl ?_
      | refine WpOps.store rfl rfl rfl rfl rfl rfl rfl rfl rfl rfl ?_
      | refine WpOps.skip rfl rfl rfl ?_
      | refine WpOps.build _ rfl rfl rfl rfl rfl ?_
      | refine WpOps.sh _ rfl rfl rfl rfl rfl ?_
      | refine WpOps.gsplit _ rfl rfl rfl (fun h => ?_) (fun h => ?_)
      | refine WpA.block ?_
      | refine WpA.exit ?_
      | refine WpOps.nil ?_
      | refine WpA.ret ?_
      | refine WpA.skip ?_
      | refine WpA.condT rfl ?_
      | refine WpA.condF rfl ?_
      | refine WpA.cond _ rfl (fun h => ?_) (fun h => ?_)
      | refine WpA.draw (by kernel_rfl) ?_
      | refine LexA.op _ rfl rfl rfl rfl rfl ?_
      | refine LexA.skip rfl rfl rfl ?_
      | refine LexA.build _ rfl rfl rfl rfl rfl ?_
      | refine LexA.sh _ rfl rfl rfl rfl rfl ?_
      | refine LexA.gsplit _ rfl rfl rfl (fun h => ?_) (fun h => ?_)
      | refine LexA.nil ?_
    · rw [decide_eq_true_eq] at h
      have hn : ∀ k, k < m.fs.length → nm m.fs k ≠ y := by
        rcases hf with ⟨k, rfl, _⟩ | ⟨_, hf⟩
        · omega
        · exact hf
      have e : findAV m y = .tup [.agg zeroHash, .int .i64 6] := by rw [findAV, findHash, findCode, findByte, if_pos hc, if_pos hc, seek_none hn]; rfl
      rw [e]
      exact retK.ok rfl rfl rfl (bdZero _ _)
    · rw [decide_eq_false_iff_not] at h
      obtain ⟨k, rfl, hk1, hk2⟩ : ∃ k : Nat, p = (k : Int) ∧ k < m.fs.length ∧ nm m.fs k = y := by
        rcases hf with hf | ⟨hf, _⟩
        · exact hf
        · omega
      have e : findAV m y = .tup [.agg (m.fs[k]).hash, .int .i64 0] := by rw [findAV, findHash, findCode, findByte, if_pos hc, if_pos hc, seek_some hs hk1 hk2]; rfl
      rw [e]
      refine WpOps.elem (m.fs[k]).row rfl rfl rfl rfl rfl rfl rfl rfl rfl (Int.natCast_nonneg _) (rows_get hk1) ?_
      repeat' first
        | refine WpA.seq ?_
        | refine WpA.region ?_
        | refine WpOps.op _ rfl rfl rfl rfl rfl ?_
        | refine WpOps.box _ rfl rfl rfl rfl rfl ?_
        | refine WpOps.alloc _ rfl rfl rfl rfl rfl rfl ?_
        | refine WpOps.store rfl rfl rfl rfl rfl rfl rfl rfl rfl rfl ?_
        | refine WpOps.skip rfl rfl rfl ?_
        | refine WpOps.build _ rfl rfl rfl rfl rfl ?_
        | refine WpOps.sh _ rfl rfl rfl rfl rfl ?_
        | refine WpOps.gsplit _ rfl rfl rfl (fun h => ?_) (fun h => ?_)
        | refine WpA.block ?_
        | refine WpA.exit ?_
        | refine WpOps.nil ?_
        | refine WpA.ret ?_
        | refine WpA.skip ?_
        | refine WpA.condT rfl ?_
        | refine WpA.condF rfl ?_
        | refine WpA.cond _ rfl (fun h => ?_) (fun h => ?_)
        | refine WpA.draw (by kernel_rfl) ?_
        | refine LexA.op _ rfl rfl rfl rfl rfl ?_
        | refine LexA.skip rfl rfl rfl ?_
        | refine LexA.build _ rfl rfl rfl rfl rfl ?_
        | refine LexA.sh _ rfl rfl rfl rfl rfl ?_
        | refine LexA.gsplit _ rfl rfl rfl (fun h => ?_) (fun h => ?_)
        | refine LexA.nil ?_
      exact retK.ok rfl rfl rfl (bdFind _ _ _)
end Go.Gp.Try
