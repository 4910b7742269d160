/- The manifest's checks: windows, files. -/
import Derived.Test.YtmacdhglhafldaaW2
namespace Go.Gp.Try
open Go.Proofs
set_option linter.unusedVariables false
set_option linter.unusedSimpArgs false

def win (f t : Int) : Bool := isTime f && isTime t && decide (f ≤ t)
def winCode (f t : Int) : Int := if win f t then 0 else 8

theorem refTime_A (t : Int) (H : List AObj) : CallsA E 46 [.int .i64 t] H (Is H (.bool (isTime t))) := by
  refine .enter Try.func46 rfl rfl rfl 9 Try.ntmps46 (Nat.le_of_ble_eq_true rfl) ?_
  repeat' first
    | refine WpA.seq ?_
    | refine WpA.region ?_
    | refine WpOps.op _ rfl rfl rfl rfl rfl ?_
    | refine WpOps.box _ rfl rfl rfl rfl rfl ?_
    | refine WpOps.alloc _ rfl rfl rfl rfl rfl rfl ?_
    | refine WpOps.store rfl rfl rfl rfl rfl rfl rfl rfl rfl rfl ?_
    | refine WpOps.skip rfl rfl rfl ?_
    | refine WpOps.build _ rfl rfl rfl rfl rfl ?_
    | refine WpOps.sh _ rfl rfl rfl rfl rfl ?_
    | refine WpOps.gsplit _ rfl rfl rfl (fun h => ?_) (fun h => ?_)
    | refine WpA.block ?_
    | refine WpA.exit ?_
    | refine WpOps.nil ?_
    | refine WpA.ret ?_
    | refine WpA.skip ?_
    | refine WpA.condT rfl ?_
    | refine WpA.condF rfl ?_
    | refine WpA.cond _ rfl (fun h => ?_) (fun h => ?_)
    | refine WpA.draw (by kernel_rfl) ?_
    | refine LexA.op _ rfl rfl rfl rfl rfl ?_
    | refine LexA.skip rfl rfl rfl ?_
    | refine LexA.build _ rfl rfl rfl rfl rfl ?_
    | refine LexA.sh _ rfl rfl rfl rfl rfl ?_
    | refine LexA.gsplit _ rfl rfl rfl (fun h => ?_) (fun h => ?_)
    | refine LexA.nil ?_
  all_goals (refine retK.ok rfl rfl (congrArg AV.bool ?_) .bool; simp [isTime] at h ⊢; omega)

theorem winCheck_A (f t : Int) (H : List AObj) : CallsA E 22 [.agg [.int .i64 f, .int .i64 t]] H (Is H (.int .i64 (winCode f t))) := by
  refine .enter Try.func22 rfl rfl rfl 20 Try.ntmps22 (Nat.le_of_ble_eq_true rfl) ?_
  repeat' first
    | refine WpA.seq ?_
    | refine WpA.region ?_
    | refine WpOps.op _ rfl rfl rfl rfl rfl ?_
    | refine WpOps.box _ rfl rfl rfl rfl rfl ?_
    | refine WpOps.alloc _ rfl rfl rfl rfl rfl rfl ?_
    | refine WpOps.store rfl rfl rfl rfl rfl rfl rfl rfl rfl rfl ?_
    | refine WpOps.skip rfl rfl rfl ?_
    | refine WpOps.build _ rfl rfl rfl rfl rfl ?_
    | refine WpOps.sh _ rfl rfl rfl rfl rfl ?_
    | (refine WpOps.call rfl rfl rfl rfl rfl (by exact isTime_A _ _) ?_; rintro _ _ ⟨rfl, rfl⟩)
    | refine WpOps.gsplit _ rfl rfl rfl (fun h => ?_) (fun h => ?_)
    | refine WpA.block ?_
    | refine WpA.exit ?_
    | refine WpOps.nil ?_
    | refine WpA.ret ?_
    | refine WpA.skip ?_
    | refine WpA.condT rfl ?_
    | refine WpA.condF rfl ?_
    | refine WpA.cond _ rfl (fun h => ?_) (fun h => ?_)
    | refine WpA.draw (by kernel_rfl) ?_
    | refine LexA.op _ rfl rfl rfl rfl rfl ?_
    | refine LexA.skip rfl rfl rfl ?_
    | refine LexA.build _ rfl rfl rfl rfl rfl ?_
    | refine LexA.sh _ rfl rfl rfl rfl rfl ?_
    | refine LexA.call rfl rfl rfl rfl rfl (by exact isTime_A _ _) ?_
    | refine LexA.gsplit _ rfl rfl rfl (fun h => ?_) (fun h => ?_)
    | refine LexA.nil ?_
  all_goals (refine retK.ok rfl rfl (congrArg (AV.int .i64) ?_) .int; (try simp at *); simp [winCode, win, *])

theorem refWinCheck_A (f t : Int) (H : List AObj) : CallsA E 24 [.agg [.int .i64 f, .int .i64 t]] H (Is H (.int .i64 (winCode f t))) := by
  refine .enter Try.func24 rfl rfl rfl 18 Try.ntmps24 (Nat.le_of_ble_eq_true rfl) ?_
  repeat' first
    | refine WpA.seq ?_
    | refine WpA.region ?_
    | refine WpOps.op _ rfl rfl rfl rfl rfl ?_
    | refine WpOps.box _ rfl rfl rfl rfl rfl ?_
    | refine WpOps.alloc _ rfl rfl rfl rfl rfl rfl ?_
    | refine WpOps.store rfl rfl rfl rfl rfl rfl rfl rfl rfl rfl ?_
    | refine WpOps.skip rfl rfl rfl ?_
    | refine WpOps.build _ rfl rfl rfl rfl rfl ?_
    | refine WpOps.sh _ rfl rfl rfl rfl rfl ?_
    | (refine WpOps.call rfl rfl rfl rfl rfl (by exact refTime_A _ _) ?_; rintro _ _ ⟨rfl, rfl⟩)
    | refine WpOps.gsplit _ rfl rfl rfl (fun h => ?_) (fun h => ?_)
    | refine WpA.block ?_
    | refine WpA.exit ?_
    | refine WpOps.nil ?_
    | refine WpA.ret ?_
    | refine WpA.skip ?_
    | refine WpA.condT rfl ?_
    | refine WpA.condF rfl ?_
    | refine WpA.cond _ rfl (fun h => ?_) (fun h => ?_)
    | refine WpA.draw (by kernel_rfl) ?_
    | refine LexA.op _ rfl rfl rfl rfl rfl ?_
    | refine LexA.skip rfl rfl rfl ?_
    | refine LexA.build _ rfl rfl rfl rfl rfl ?_
    | refine LexA.sh _ rfl rfl rfl rfl rfl ?_
    | refine LexA.call rfl rfl rfl rfl rfl (by exact refTime_A _ _) ?_
    | refine LexA.gsplit _ rfl rfl rfl (fun h => ?_) (fun h => ?_)
    | refine LexA.nil ?_
  all_goals (refine retK.ok rfl rfl (congrArg (AV.int .i64) ?_) .int; (try simp at *); simp [winCode, win, *])

structure File where
  name : List UInt8
  h : Nat → UInt8

def File.hash (f : File) : List AV := (List.range 32).map fun i => u8 (f.h i)
def File.row (f : File) : List AV := .str f.name :: (List.range 32).map fun i => u8 (f.h i)

structure Man where
  v : Int
  a : Int
  b : Int
  fs : List File

def rows (fs : List File) : List (List AV) := fs.map File.row
def Man.cells (m : Man) (tg : Tag) : List AV := [.int .u64 m.v, .int .i64 m.a, .int .i64 m.b, .sl tg 33 (rows m.fs)]
abbrev Man.av (m : Man) (tg : Tag) : AV := .agg [.int .u64 m.v, .int .i64 m.a, .int .i64 m.b, .sl tg 33 (rows m.fs)]

theorem rows_length (fs : List File) : (rows fs).length = fs.length := List.length_map _
theorem rows_get {fs : List File} {i : Nat} (h : i < fs.length) : (rows fs)[((i : Int)).toNat]? = some (fs[i]).row := by
  rw [rows, List.getElem?_map, Int.toNat_natCast, List.getElem?_eq_getElem h]
  rfl

def greatFrom (m : Man) (i : Nat) : Bool := (m.fs.drop i).any fun f => decide (200 < f.name.length)
def great (m : Man) : Bool := decide (220 < m.fs.length) || greatFrom m 0

theorem great_A (m : Man) (tg : Tag) (H : List AObj) (hb : m.fs.length ≤ 1000000000000000) : CallsA E 5 [m.av tg] H (Is H (.bool (great m))) := by
  refine .enter Try.func5 rfl rfl rfl 23 Try.ntmps5 (Nat.le_of_ble_eq_true rfl) ?_
  repeat' first
    | refine WpA.seq ?_
    | refine WpA.region ?_
    | refine WpOps.op _ rfl rfl rfl rfl rfl ?_
    | refine WpOps.box _ rfl rfl rfl rfl rfl ?_
    | refine WpOps.alloc _ rfl rfl rfl rfl rfl rfl ?_
    | refine WpOps.store rfl rfl rfl rfl rfl rfl rfl rfl rfl rfl ?_
    | refine WpOps.skip rfl rfl rfl ?_
    | refine WpOps.build _ rfl rfl rfl rfl rfl ?_
    | refine WpOps.sh _ rfl rfl rfl rfl rfl ?_
    | refine WpOps.gsplit _ rfl rfl rfl (fun h => ?_) (fun h => ?_)
    | refine WpA.block ?_
    | refine WpA.exit ?_
    | refine WpOps.nil ?_
    | refine WpA.ret ?_
    | refine WpA.skip ?_
    | refine WpA.condT rfl ?_
    | refine WpA.condF rfl ?_
    | refine WpA.cond _ rfl (fun h => ?_) (fun h => ?_)
    | refine WpA.draw (by kernel_rfl) ?_
    | refine LexA.op _ rfl rfl rfl rfl rfl ?_
    | refine LexA.skip rfl rfl rfl ?_
    | refine LexA.build _ rfl rfl rfl rfl rfl ?_
    | refine LexA.sh _ rfl rfl rfl rfl rfl ?_
    | refine LexA.gsplit _ rfl rfl rfl (fun h => ?_) (fun h => ?_)
    | refine LexA.nil ?_
  · refine retK.ok rfl rfl (congrArg AV.bool ?_) .bool
    simp [rows_length] at h
    simp [great]; omega
  · simp [rows_length] at h
    refine WpA.loopS (α := Nat) (fun i => [(1, .ptr H.length 0 0), (3, .int .i64 i)]) (fun _ => H ++ [.cells (m.cells tg)]) (fun i => i ≤ m.fs.length ∧ greatFrom m 0 = greatFrom m i) (fun i => m.fs.length - i) 0 ⟨Nat.zero_le _, rfl⟩ ⟨rfl, rfl, trivial⟩ rfl ?_
    rintro i ⟨hi, hn⟩
    repeat' first
      | refine WpA.seq ?_
      | refine WpA.region ?_
      | refine WpOps.op _ rfl rfl rfl rfl rfl ?_
      | refine WpOps.box _ rfl rfl rfl rfl rfl ?_
      | refine WpOps.alloc _ rfl rfl rfl rfl rfl rfl ?_
      | refine WpOps.store rfl rfl rfl rfl rfl rfl rfl rfl rfl rfl ?_
      | refine WpOps.skip rfl rfl rfl ?_
      | refine WpOps.build _ rfl rfl rfl rfl rfl ?_
      | refine WpOps.sh _ rfl rfl rfl rfl rfl ?_
      | refine WpOps.gsplit _ rfl rfl rfl (fun h => ?_) (fun h => ?_)
      | refine WpA.block ?_
      | refine WpA.exit ?_
      | refine WpOps.nil ?_
      | refine WpA.ret ?_
      | refine WpA.skip ?_
      | refine WpA.condT rfl ?_
      | refine WpA.condF rfl ?_
      | refine WpA.cond _ rfl (fun h => ?_) (fun h => ?_)
      | refine WpA.draw (by kernel_rfl) ?_
      | refine LexA.op _ rfl rfl rfl rfl rfl ?_
      | refine LexA.skip rfl rfl rfl ?_
      | refine LexA.build _ rfl rfl rfl rfl rfl ?_
      | refine LexA.sh _ rfl rfl rfl rfl rfl ?_
      | refine LexA.gsplit _ rfl rfl rfl (fun h => ?_) (fun h => ?_)
      | refine LexA.nil ?_
    · simp [rows_length] at h
      refine WpOps.elem (m.fs[i]).row rfl rfl rfl rfl rfl rfl rfl rfl rfl (Int.natCast_nonneg i) (rows_get h) ?_
      have hd : greatFrom m i = (decide (200 < (m.fs[i]).name.length) || greatFrom m (i + 1)) := by
        unfold greatFrom
        rw [List.drop_eq_getElem_cons h, List.any_cons]
      repeat' first
        | refine WpA.seq ?_
        | refine WpA.region ?_
        | refine WpOps.op _ rfl rfl rfl rfl rfl ?_
        | refine WpOps.box _ rfl rfl rfl rfl rfl ?_
        | refine WpOps.alloc _ rfl rfl rfl rfl rfl rfl ?_
        | refine WpOps.store rfl rfl rfl rfl rfl rfl rfl rfl rfl rfl ?_
        | refine WpOps.skip rfl rfl rfl ?_
        | refine WpOps.build _ rfl rfl rfl rfl rfl ?_
        | refine WpOps.sh _ rfl rfl rfl rfl rfl ?_
        | refine WpOps.gsplit _ rfl rfl rfl (fun h => ?_) (fun h => ?_)
        | refine WpA.block ?_
        | refine WpA.exit ?_
        | refine WpOps.nil ?_
        | refine WpA.ret ?_
        | refine WpA.skip ?_
        | refine WpA.condT rfl ?_
        | refine WpA.condF rfl ?_
        | refine WpA.cond _ rfl (fun h => ?_) (fun h => ?_)
        | refine WpA.draw (by kernel_rfl) ?_
        | refine LexA.op _ rfl rfl rfl rfl rfl ?_
        | refine LexA.skip rfl rfl rfl ?_
        | refine LexA.build _ rfl rfl rfl rfl rfl ?_
        | refine LexA.sh _ rfl rfl rfl rfl rfl ?_
        | refine LexA.gsplit _ rfl rfl rfl (fun h => ?_) (fun h => ?_)
        | refine LexA.nil ?_
      · refine retK.ok rfl rfl (congrArg AV.bool ?_) .bool
        simp at h
        rw [great, hn, hd]
        simp
        exact .inr (.inl (by omega))
      · refine ⟨i + 1, ⟨by omega, ?_⟩, by omega, ⟨rfl, congrArg (AV.int .i64) (wrap64 (by omega) (by omega)), trivial⟩, rfl⟩
        simp at h
        rw [hn, hd]
        simp
        omega
    · refine retK.ok rfl rfl (congrArg AV.bool ?_) .bool
      simp [rows_length] at h
      rw [great, hn, greatFrom, List.drop_eq_nil_of_le (by omega)]
      simp; omega

def Same (H : List AObj) (r : AV) : AEnd → List AObj → Prop := Is H r

theorem twin_A (m : Man) (tg : Tag) (H : List AObj) (hb : m.fs.length ≤ 1000) : CallsA E 6 [m.av tg] H (Is H (m.av .no)) := by
  refine .enter Try.func6 rfl rfl rfl 9 Try.ntmps6 (Nat.le_of_ble_eq_true rfl) ?_
  repeat' first
    | refine WpA.seq ?_
    | refine WpA.region ?_
    | refine WpOps.op _ rfl rfl rfl rfl rfl ?_
    | refine WpOps.box _ rfl rfl rfl rfl rfl ?_
    | refine WpOps.alloc _ rfl rfl rfl rfl rfl rfl ?_
    | refine WpOps.store rfl rfl rfl rfl rfl rfl rfl rfl rfl rfl ?_
    | refine WpOps.skip rfl rfl rfl ?_
    | refine WpOps.build _ rfl rfl rfl rfl rfl ?_
    | refine WpOps.sh _ rfl rfl rfl rfl rfl ?_
    | refine WpOps.buildSlice [] rfl rfl rfl rfl rfl rfl rfl rfl rfl rfl rfl ?_
    | refine WpOps.gsplit _ rfl rfl rfl (fun h => ?_) (fun h => ?_)
    | refine WpA.block ?_
    | refine WpA.exit ?_
    | refine WpOps.nil ?_
    | refine WpA.ret ?_
    | refine WpA.skip ?_
    | refine WpA.condT rfl ?_
    | refine WpA.condF rfl ?_
    | refine WpA.cond _ rfl (fun h => ?_) (fun h => ?_)
    | refine WpA.draw (by kernel_rfl) ?_
    | refine LexA.op _ rfl rfl rfl rfl rfl ?_
    | refine LexA.skip rfl rfl rfl ?_
    | refine LexA.build _ rfl rfl rfl rfl rfl ?_
    | refine LexA.sh _ rfl rfl rfl rfl rfl ?_
    | refine LexA.gsplit _ rfl rfl rfl (fun h => ?_) (fun h => ?_)
    | refine LexA.nil ?_
  refine WpOps.appF rfl rfl rfl rfl rfl rfl rfl (fun k h => by cases h) rfl rfl rfl ?_ ?_
  · show (0 + (rows m.fs).length) * 48 ≤ _
    rw [rows_length]; omega
  repeat' first
    | refine WpA.seq ?_
    | refine WpA.region ?_
    | refine WpOps.op _ rfl rfl rfl rfl rfl ?_
    | refine WpOps.box _ rfl rfl rfl rfl rfl ?_
    | refine WpOps.alloc _ rfl rfl rfl rfl rfl rfl ?_
    | refine WpOps.store rfl rfl rfl rfl rfl rfl rfl rfl rfl rfl ?_
    | refine WpOps.skip rfl rfl rfl ?_
    | refine WpOps.build _ rfl rfl rfl rfl rfl ?_
    | refine WpOps.sh _ rfl rfl rfl rfl rfl ?_
    | refine WpOps.gsplit _ rfl rfl rfl (fun h => ?_) (fun h => ?_)
    | refine WpA.block ?_
    | refine WpA.exit ?_
    | refine WpOps.nil ?_
    | refine WpA.ret ?_
    | refine WpA.skip ?_
    | refine WpA.condT rfl ?_
    | refine WpA.condF rfl ?_
    | refine WpA.cond _ rfl (fun h => ?_) (fun h => ?_)
    | refine WpA.draw (by kernel_rfl) ?_
    | refine LexA.op _ rfl rfl rfl rfl rfl ?_
    | refine LexA.skip rfl rfl rfl ?_
    | refine LexA.build _ rfl rfl rfl rfl rfl ?_
    | refine LexA.sh _ rfl rfl rfl rfl rfl ?_
    | refine LexA.gsplit _ rfl rfl rfl (fun h => ?_) (fun h => ?_)
    | refine LexA.nil ?_
  refine retK.ok rfl rfl rfl (.agg ?_)
  intro e he
  simp at he
  rcases he with rfl | rfl | rfl | rfl
  · exact .int
  · exact .int
  · exact .int
  · refine .sl (fun _ _ e => by cases e) fun x hx e he => ?_
    obtain ⟨f, _, rfl⟩ := List.mem_map.1 hx
    rcases List.mem_cons.1 he with rfl | he
    · exact .str
    · obtain ⟨i, _, rfl⟩ := List.mem_map.1 he
      exact .int
end Go.Gp.Try
