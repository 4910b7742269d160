/- Part of a proof: GhQ8, GhQ1, GhW3, GhQ31, GhQ32, GhQ7, GhQ9 -/
import Derived.Test.YtlmjiblfmhaicaaGreatDoorK13
import Derived.Test.YtlmjiblfmhaicaaGreatDoorK17
import Derived.Test.YtlmjiblfmhaicaaGreatDoorK23
import Derived.Test.YtlmjiblfmhaicaaGreatDoorK24

set_option linter.unusedSectionVars false

/- Signatures: their forms. -/
namespace Go.Gp.Tryz
variable [Inhabited MaxLenT]
open Go.Proofs
set_option linter.unusedVariables false
set_option linter.unusedSimpArgs false
set_option linter.unusedSectionVars false
set_option maxHeartbeats 4000000

def sigE (h : Nat) (idx : Int) (nc np : Nat) : Int := if 4 < h then 2 else if idx < 0 ∨ idx ≥ ((2 ^ h : Nat) : Int) ∨ nc ≠ 35 ∨ np ≠ h then 12 else 0
def sigC (idx : Int) (ch pa : List (List AV)) : List AV := [.int .i64 idx, .sl .no 16 ch, .sl .no 16 pa]
theorem goodH_A (h : Nat) (H : List AObj) : CallsA E 58 [.int .i64 (h : Nat)] H (Is H (.bool (decide (h ≤ 4)))) := by
  refine .enter Tryz.func58 rfl rfl rfl 9 Tryz.ntmps58 (Nat.le_of_ble_eq_true rfl) ?_
  repeat' first
    | refine WpA.seq ?_
    | refine WpA.region ?_
    | refine WpOps.op _ rfl rfl rfl rfl rfl ?_
    | refine WpOps.nil ?_
    | refine WpA.ret ?_
  all_goals (refine retK.ok rfl rfl (congrArg AV.bool ?_) .bool; simp at *; try omega)
theorem sigCheck_A (h : Nat) (idx : Int) (ch pa : List (List AV)) (H : List AObj) : CallsA E 34 [.int .i64 (h : Nat), .agg (sigC idx ch pa)] H (Is H (.int .i64 (sigE h idx ch.length pa.length))) := by
  have hG := fun X => goodH_A h X
  have wb : IntKind.i64.bits = 64 := rfl
  have w1 : IntKind.i64.wrap 1 = 1 := rfl
  have w2 : IntKind.i64.wrap 2 = 2 := rfl
  have w4 : IntKind.i64.wrap 4 = 4 := rfl
  have w8 : IntKind.i64.wrap 8 = 8 := rfl
  have w16 : IntKind.i64.wrap 16 = 16 := rfl
  refine .enter Tryz.func34 rfl rfl rfl 31 Tryz.ntmps34 (Nat.le_of_ble_eq_true rfl) ?_
  by_cases h4 : h ≤ 4
  · rw [decide_eq_true h4] at hG
    have hh : h = 0 ∨ h = 1 ∨ h = 2 ∨ h = 3 ∨ h = 4 := by omega
    rcases hh with rfl | rfl | rfl | rfl | rfl
    all_goals
      repeat' first
        | refine WpA.seq ?_
        | refine WpA.region ?_
        | refine WpOps.op _ rfl rfl rfl rfl rfl ?_
        | refine WpOps.box _ rfl rfl rfl rfl rfl ?_
        | (refine WpOps.call rfl rfl rfl rfl rfl (by exact hG _) ?_; rintro _ _ ⟨rfl, rfl⟩)
        | refine WpOps.nil ?_
        | refine WpA.ret ?_
        | refine WpA.skip ?_
        | refine WpA.condT rfl ?_
        | refine WpA.condF rfl ?_
        | refine WpA.cond _ rfl (fun h => ?_) (fun h => ?_)
        | refine WpA.draw (by kernel_rfl) ?_
        | refine LexA.op _ rfl rfl rfl rfl rfl ?_
        | refine LexA.skip rfl rfl rfl ?_
        | refine LexA.sh _ rfl rfl rfl rfl rfl ?_
        | refine LexA.gsplit _ rfl rfl rfl (fun h => ?_) (fun h => ?_)
        | refine LexA.nil ?_
    all_goals (refine retK.ok rfl rfl (congrArg (AV.int .i64) ?_) .int; clear hG; simp [wb, w1, w2, w4, w8, w16] at *; simp [sigE, *]; first | done | omega | (intros; first | assumption | omega) | (refine ⟨?_, ?_⟩ <;> first | assumption | omega) | simp_all)
  · rw [decide_eq_false h4] at hG
    rw [sigE, if_pos (by omega)]
    repeat' first
      | refine WpA.seq ?_
      | refine WpA.region ?_
      | refine WpOps.op _ rfl rfl rfl rfl rfl ?_
      | refine WpOps.box _ rfl rfl rfl rfl rfl ?_
      | (refine WpOps.call rfl rfl rfl rfl rfl (by exact hG _) ?_; rintro _ _ ⟨rfl, rfl⟩)
      | refine WpOps.nil ?_
      | refine WpA.ret ?_
      | refine WpA.condT rfl ?_
    exact retK.ok rfl rfl rfl .int
def emptySig (idx : Int) (ch pa : List (List AV)) : Bool := decide (idx = 0) && (decide (ch.length = 0) && decide (pa.length = 0))
theorem certEmpty_A (idx : Int) (ch pa : List (List AV)) (H : List AObj) : CallsA E 33 [.agg (sigC idx ch pa)] H (Is H (.bool (emptySig idx ch pa))) := by
  refine .enter Tryz.func33 rfl rfl rfl 18 Tryz.ntmps33 (Nat.le_of_ble_eq_true rfl) ?_
  repeat' first
    | refine WpA.seq ?_
    | refine WpA.region ?_
    | refine WpOps.op _ rfl rfl rfl rfl rfl ?_
    | refine WpOps.box _ rfl rfl rfl rfl rfl ?_
    | refine WpOps.skip rfl rfl rfl ?_
    | refine WpOps.gsplit _ rfl rfl rfl (fun h => ?_) (fun h => ?_)
    | refine WpOps.nil ?_
    | refine WpA.ret ?_
  all_goals (refine retK.ok rfl rfl (congrArg AV.bool ?_) .bool; simp at *; simp [emptySig, *]; try (cases pa <;> simp <;> omega))
theorem profEmpty_A (idx : Int) (ch pa : List (List AV)) (H : List AObj) : CallsA E 35 [.agg (sigC idx ch pa)] H (Is H (.bool (emptySig idx ch pa))) := by
  refine .enter Tryz.func35 rfl rfl rfl 18 Tryz.ntmps35 (Nat.le_of_ble_eq_true rfl) ?_
  repeat' first
    | refine WpA.seq ?_
    | refine WpA.region ?_
    | refine WpOps.op _ rfl rfl rfl rfl rfl ?_
    | refine WpOps.box _ rfl rfl rfl rfl rfl ?_
    | refine WpOps.skip rfl rfl rfl ?_
    | refine WpOps.gsplit _ rfl rfl rfl (fun h => ?_) (fun h => ?_)
    | refine WpOps.nil ?_
    | refine WpA.ret ?_
  all_goals (refine retK.ok rfl rfl (congrArg AV.bool ?_) .bool; simp at *; simp [emptySig, *]; try (cases pa <;> simp <;> omega))
theorem signed_A (idx : Int) (ch pa : List (List AV)) (H : List AObj) : CallsA E 45 [.agg (sigC idx ch pa)] H (Is H (.bool (!emptySig idx ch pa))) := by
  refine .enter Tryz.func45 rfl rfl rfl 18 Tryz.ntmps45 (Nat.le_of_ble_eq_true rfl) ?_
  repeat' first
    | refine WpA.seq ?_
    | refine WpA.region ?_
    | refine WpOps.op _ rfl rfl rfl rfl rfl ?_
    | refine WpOps.box _ rfl rfl rfl rfl rfl ?_
    | refine WpOps.skip rfl rfl rfl ?_
    | refine WpOps.gsplit _ rfl rfl rfl (fun h => ?_) (fun h => ?_)
    | refine WpOps.nil ?_
    | refine WpA.ret ?_
  all_goals (refine retK.ok rfl rfl (congrArg AV.bool ?_) .bool; simp at *; simp [emptySig, *]; try (cases ch <;> cases pa <;> simp_all))
end Go.Gp.Tryz

/- Names of issuers: the walks. -/
namespace Go.Gp.Tryz
variable [Inhabited MaxLenT]
open Go.Proofs
set_option linter.unusedVariables false
set_option linter.unusedSimpArgs false
set_option linter.unusedSectionVars false
set_option maxHeartbeats 4000000

def okNm (b : UInt8) : Bool := (decide (97 ≤ b.toNat) && decide (b.toNat ≤ 122)) || (decide (65 ≤ b.toNat) && decide (b.toNat ≤ 90)) || (decide (48 ≤ b.toNat) && decide (b.toNat ≤ 57)) || b.toNat == 45 || b.toNat == 95
def nmOk (s : List UInt8) (i : Nat) : Bool := (s.drop i).all okNm
theorem nmOk_step {s : List UInt8} {i : Nat} (h : i < s.length) : nmOk s i = (okNm s[i] && nmOk s (i + 1)) := by
  unfold nmOk
  rw [List.drop_eq_getElem_cons h, List.all_cons]
theorem nmOk_end {s : List UInt8} {i : Nat} (h : s.length ≤ i) : nmOk s i = true := by
  rw [nmOk, List.drop_eq_nil_of_le h]; rfl
def name1 (s : List UInt8) : Bool := decide (1 ≤ s.length) && decide (s.length ≤ 40) && nmOk s 0

theorem nm_A (b : UInt8) (H : List AObj) : CallsA E 55 [u8 b] H (Is H (.bool (okNm b))) := by
  refine .enter Tryz.func55 rfl rfl rfl 33 Tryz.ntmps55 (Nat.le_of_ble_eq_true rfl) ?_
  repeat' first
    | refine WpA.seq ?_
    | refine WpA.region ?_
    | refine WpOps.op _ rfl rfl rfl rfl rfl ?_
    | refine WpOps.skip rfl rfl rfl ?_
    | refine WpOps.gsplit _ rfl rfl rfl (fun h => ?_) (fun h => ?_)
    | refine WpOps.nil ?_
    | refine WpA.ret ?_
  all_goals (refine retK.ok rfl rfl (congrArg AV.bool ?_) .bool; simp at *; rw [Bool.eq_iff_iff]; simp [okNm]; omega)

theorem name1_A (s : List UInt8) (H : List AObj) (hs : s.length ≤ 1000000) : CallsA E 26 [.str s] H (Is H (.bool (name1 s))) := by
  refine .enter Tryz.func26 rfl rfl rfl 25 Tryz.ntmps26 (Nat.le_of_ble_eq_true rfl) ?_
  repeat' first
    | refine WpA.seq ?_
    | refine WpA.region ?_
    | refine WpOps.op _ rfl rfl rfl rfl rfl ?_
    | refine WpA.block ?_
    | refine WpOps.nil ?_
  refine WpA.loopS (α := Nat) (fun i => [(0, .str s), (3, .func 55 []), (6, .int .i64 (s.length : Nat)), (7, .int .i64 (i : Nat))]) (fun _ => H ++ []) (fun i => i ≤ s.length ∧ nmOk s 0 = nmOk s i) (fun i => s.length - i) 0 ⟨Nat.zero_le _, rfl⟩ ⟨rfl, rfl, rfl, rfl, trivial⟩ rfl ?_
  rintro i ⟨hi, hn⟩
  by_cases hlt : i < s.length
  · have hd := nmOk_step hlt
    have hl : decide (((i : Nat) : Int) < ((s.length : Nat) : Int)) = true := decide_eq_true (by omega)
    obtain ⟨b, hb⟩ : ∃ b, s[i] = b := ⟨_, rfl⟩
    have happ := fun X => AppA.of_calls (caps := []) (args := [u8 b]) (nm_A b X)
    obtain ⟨q, hq⟩ : ∃ q, okNm b = q := ⟨_, rfl⟩
    rw [hb] at hd
    rw [hq] at happ hd
    repeat' first
      | refine WpA.condT (congrArg AV.bool hl) ?_
      | (refine WpOps.indexS s[i] rfl rfl rfl rfl rfl rfl rfl (Int.natCast_nonneg i) (by simp) ?_; rw [hb])
      | (refine WpOps.callV rfl rfl rfl rfl rfl (by exact happ _) ?_; rintro _ _ ⟨rfl, rfl⟩)
      | refine WpA.seq ?_
      | refine WpA.region ?_
      | refine WpOps.op _ rfl rfl rfl rfl rfl ?_
      | refine WpA.block ?_
      | refine WpOps.nil ?_
      | refine WpA.ret ?_
      | refine WpA.skip ?_
      | refine WpA.cond _ rfl (fun h => ?_) (fun h => ?_)
    · have hq' : q = false := by simpa using h
      refine retK.ok rfl rfl (congrArg AV.bool ?_) .bool
      rw [name1, hn, hd, hq']; simp
    · have hq' : q = true := by simpa using h
      refine ⟨i + 1, ⟨hlt, by rw [hn, hd, hq']; rfl⟩, by omega, ⟨rfl, rfl, rfl, congrArg (AV.int .i64) (wrap64 (by omega) (by omega)), trivial⟩, rfl⟩
  · have hl : decide (((i : Nat) : Int) < ((s.length : Nat) : Int)) = false := decide_eq_false (by omega)
    have he := nmOk_end (s := s) (i := i) (by omega)
    repeat' first
      | refine WpA.condF (congrArg AV.bool hl) ?_
      | refine WpA.seq ?_
      | refine WpA.region ?_
      | refine WpOps.op _ rfl rfl rfl rfl rfl ?_
      | refine WpOps.skip rfl rfl rfl ?_
      | refine WpOps.gsplit _ rfl rfl rfl (fun h => ?_) (fun h => ?_)
      | refine WpA.exit ?_
      | refine WpOps.nil ?_
      | refine WpA.ret ?_
    all_goals (refine retK.ok rfl rfl (congrArg AV.bool ?_) .bool; simp at *; rw [name1, hn, he, Bool.eq_iff_iff]; simp [*]; try omega)

theorem refName1_A (s : List UInt8) (H : List AObj) : CallsA E 40 [.str s] H (Is H (.bool (name1 s))) := by
  refine .enter Tryz.func40 rfl rfl rfl 53 Tryz.ntmps40 (Nat.le_of_ble_eq_true rfl) ?_
  repeat' first
    | refine WpA.seq ?_
    | refine WpA.region ?_
    | refine WpOps.op _ rfl rfl rfl rfl rfl ?_
    | refine WpOps.skip rfl rfl rfl ?_
    | refine WpOps.gsplit _ rfl rfl rfl (fun h => ?_) (fun h => ?_)
    | refine WpA.block ?_
    | refine WpOps.nil ?_
    | refine WpA.ret ?_
    | refine WpA.skip ?_
    | refine WpA.condT rfl ?_
    | refine WpA.cond _ rfl (fun h => ?_) (fun h => ?_)
  · refine retK.ok rfl rfl (congrArg AV.bool ?_) .bool
    simp at *
    simp [name1, *]
  · refine retK.ok rfl rfl (congrArg AV.bool ?_) .bool
    simp at *
    simp [name1]; omega
  · refine WpA.loopS (α := Nat) (fun i => [(0, .str s), (3, .int .i64 i)]) (fun _ => H ++ []) (fun i => i ≤ s.length ∧ nmOk s 0 = nmOk s i) (fun i => s.length - i) 0 ⟨Nat.zero_le _, rfl⟩ ⟨rfl, rfl, trivial⟩ rfl ?_
    rintro i ⟨hi, hn⟩
    simp at h
    have hsl : 1 ≤ s.length ∧ s.length ≤ 40 := by
      clear hn hi
      refine ⟨?_, ?_⟩
      · cases s with
        | nil => simp_all
        | cons => simp
      · (try simp at *); omega
    by_cases hlt : i < s.length
    · have hl : decide (((i : Nat) : Int) < ((s.length : Nat) : Int)) = true := decide_eq_true (by omega)
      have hd := nmOk_step hlt
      have hu : okNm s[i] = ((decide (97 ≤ s[i].toNat) && decide (s[i].toNat ≤ 122)) || (decide (65 ≤ s[i].toNat) && decide (s[i].toNat ≤ 90)) || (decide (48 ≤ s[i].toNat) && decide (s[i].toNat ≤ 57)) || s[i].toNat == 45 || s[i].toNat == 95) := rfl
      repeat' first
        | refine WpA.condT (congrArg AV.bool hl) ?_
        | (refine WpOps.indexS s[i] rfl rfl rfl rfl rfl rfl rfl (Int.natCast_nonneg i) (by simp) ?_)
        | refine WpA.seq ?_
        | refine WpA.region ?_
        | refine WpOps.op _ rfl rfl rfl rfl rfl ?_
        | refine WpOps.skip rfl rfl rfl ?_
        | refine WpOps.gsplit _ rfl rfl rfl (fun h => ?_) (fun h => ?_)
        | refine WpA.block ?_
        | refine WpOps.nil ?_
        | refine WpA.ret ?_
        | refine WpA.skip ?_
        | refine WpA.condF rfl ?_
        | refine WpA.cond _ rfl (fun h => ?_) (fun h => ?_)
      all_goals first
        | (refine retK.ok rfl rfl (congrArg AV.bool ?_) .bool
           have hb : okNm s[i] = false := by
             rw [hu]
             clear hu hd hn hsl
             simp at *
             first
               | omega
               | (simp [*]; done)
               | (simp [*]; omega)
           rw [name1, hn, hd, hb]; simp)
        | (refine ⟨i + 1, ⟨hlt, ?_⟩, by omega, ⟨rfl, congrArg (AV.int .i64) (wrap64 (by omega) (by omega)), trivial⟩, rfl⟩
           have hb : okNm s[i] = true := by
             rw [hu]
             clear hu hd hn hsl
             simp at *
             first
               | omega
               | (simp [*]; done)
               | (simp [*]; omega)
           rw [hn, hd, hb]; simp)
    · have hl : decide (((i : Nat) : Int) < ((s.length : Nat) : Int)) = false := decide_eq_false (by omega)
      have he := nmOk_end (s := s) (i := i) (by omega)
      repeat' first
        | refine WpA.condF (congrArg AV.bool hl) ?_
        | refine WpA.seq ?_
        | refine WpA.region ?_
        | refine WpOps.op _ rfl rfl rfl rfl rfl ?_
        | refine WpA.exit ?_
        | refine WpOps.nil ?_
        | refine WpA.ret ?_
      all_goals (refine retK.ok rfl rfl (congrArg AV.bool ?_) .bool; rw [name1, hn, he, Bool.eq_iff_iff]; simp; omega)
end Go.Gp.Tryz

/- The manifest's checks: windows, files. -/
namespace Go.Gp.Tryz
variable [Inhabited MaxLenT]
open Go.Proofs
set_option linter.unusedVariables false
set_option linter.unusedSimpArgs false

def win (f t : Int) : Bool := isTime f && isTime t && decide (f ≤ t)
def winCode (f t : Int) : Int := if win f t then 0 else 8

theorem refTime_A (t : Int) (H : List AObj) : CallsA E 67 [.int .i64 t] H (Is H (.bool (isTime t))) := by
  refine .enter Tryz.func67 rfl rfl rfl 9 Tryz.ntmps67 (Nat.le_of_ble_eq_true rfl) ?_
  repeat' first
    | refine WpA.seq ?_
    | refine WpA.region ?_
    | refine WpOps.op _ rfl rfl rfl rfl rfl ?_
    | refine WpOps.skip rfl rfl rfl ?_
    | refine WpOps.gsplit _ rfl rfl rfl (fun h => ?_) (fun h => ?_)
    | refine WpOps.nil ?_
    | refine WpA.ret ?_
  all_goals (refine retK.ok rfl rfl (congrArg AV.bool ?_) .bool; simp [isTime] at h ⊢; omega)

theorem winCheck_A (f t : Int) (H : List AObj) : CallsA E 27 [.agg [.int .i64 f, .int .i64 t]] H (Is H (.int .i64 (winCode f t))) := by
  refine .enter Tryz.func27 rfl rfl rfl 20 Tryz.ntmps27 (Nat.le_of_ble_eq_true rfl) ?_
  repeat' first
    | refine WpA.seq ?_
    | refine WpA.region ?_
    | refine WpOps.op _ rfl rfl rfl rfl rfl ?_
    | refine WpOps.box _ rfl rfl rfl rfl rfl ?_
    | refine WpOps.skip rfl rfl rfl ?_
    | (refine WpOps.call rfl rfl rfl rfl rfl (by exact isTime_A _ _) ?_; rintro _ _ ⟨rfl, rfl⟩)
    | refine WpOps.gsplit _ rfl rfl rfl (fun h => ?_) (fun h => ?_)
    | refine WpOps.nil ?_
    | refine WpA.ret ?_
    | refine WpA.skip ?_
    | refine WpA.condT rfl ?_
    | refine WpA.cond _ rfl (fun h => ?_) (fun h => ?_)
  all_goals (refine retK.ok rfl rfl (congrArg (AV.int .i64) ?_) .int; (try simp at *); simp [winCode, win, *])

theorem refWinCheck_A (f t : Int) (H : List AObj) : CallsA E 41 [.agg [.int .i64 f, .int .i64 t]] H (Is H (.int .i64 (winCode f t))) := by
  refine .enter Tryz.func41 rfl rfl rfl 18 Tryz.ntmps41 (Nat.le_of_ble_eq_true rfl) ?_
  repeat' first
    | refine WpA.seq ?_
    | refine WpA.region ?_
    | refine WpOps.op _ rfl rfl rfl rfl rfl ?_
    | refine WpOps.box _ rfl rfl rfl rfl rfl ?_
    | refine WpOps.skip rfl rfl rfl ?_
    | (refine WpOps.call rfl rfl rfl rfl rfl (by exact refTime_A _ _) ?_; rintro _ _ ⟨rfl, rfl⟩)
    | refine WpOps.gsplit _ rfl rfl rfl (fun h => ?_) (fun h => ?_)
    | refine WpOps.nil ?_
    | refine WpA.ret ?_
    | refine WpA.skip ?_
    | refine WpA.condF rfl ?_
    | refine WpA.cond _ rfl (fun h => ?_) (fun h => ?_)
  all_goals (refine retK.ok rfl rfl (congrArg (AV.int .i64) ?_) .int; (try simp at *); simp [winCode, win, *])

structure File where
  name : List UInt8
  h : Nat → UInt8

def File.row (f : File) : List AV := .str f.name :: (List.range 32).map fun i => u8 (f.h i)

structure Man where
  v : Int
  a : Int
  b : Int
  fs : List File

def rows (fs : List File) : List (List AV) := fs.map File.row
def Man.cells (m : Man) (tg : Tag) : List AV := [.int .u64 m.v, .int .i64 m.a, .int .i64 m.b, .sl tg 33 (rows m.fs)]
abbrev Man.av (m : Man) (tg : Tag) : AV := .agg [.int .u64 m.v, .int .i64 m.a, .int .i64 m.b, .sl tg 33 (rows m.fs)]

end Go.Gp.Tryz

/- Certificates: what Check answers, places. -/
namespace Go.Gp.Tryz
variable [Inhabited MaxLenT]
open Go.Proofs
set_option linter.unusedVariables false
set_option linter.unusedSimpArgs false
set_option linter.unusedSectionVars false
set_option maxHeartbeats 4000000

structure Crt where
  serial : Int
  issuer : List UInt8
  subject : List UInt8
  f : Int
  t : Int
  rt : Nat → UInt8
  height : Int
  ca : Bool
  inherit : Bool
  res : Res
  repo : List UInt8
  man : List UInt8
  notify : List UInt8
  crl : List UInt8
  parent : List UInt8
  idx : Int
  ch : List (List AV)
  pa : List (List AV)
def Crt.head (c : Crt) : List AV := [.int .u64 c.serial, .str c.issuer, .str c.subject, .int .i64 c.f, .int .i64 c.t]
def keyC (rt : Nat → UInt8) (h : Int) : List AV := (List.range 16).map (fun k => u8 (rt k)) ++ [.int .i64 h]
def Crt.tail (c : Crt) : List AV := [.bool c.ca, .bool c.inherit, .sl .no 4 (spRows c.res.v4), .sl .no 4 (spRows c.res.v6), .sl .no 2 (asRows c.res.sy), .str c.repo, .str c.man, .str c.notify, .str c.crl, .str c.parent, .int .i64 c.idx, .sl .no 16 c.ch, .sl .no 16 c.pa]
def Crt.cells (c : Crt) : List AV := c.head ++ (keyC c.rt c.height ++ c.tail)
structure Crt.sm (c : Crt) : Prop where
  s0 : 0 ≤ c.serial
  issuer : c.issuer.length ≤ 1000
  subject : c.subject.length ≤ 1000
  rs : c.res.small
  ro : c.res.ok
  repo : c.repo.length ≤ 1000
  man : c.man.length ≤ 1000
  notify : c.notify.length ≤ 1000
  crl : c.crl.length ≤ 1000
  parent : c.parent.length ≤ 1000
  ch : c.ch.length ≤ 1000
  pa : c.pa.length ≤ 1000

/-! ### Places -/
def placeE (s : List UInt8) (p : Loc → Bool) : Bool := (s == []) || (((parseE s).2 == 0) && p (parseE s).1)
theorem place_A (s : List UInt8) (fv : AV) (p : Loc → Bool) (H : List AObj) (hs : s.length ≤ 1000000) (hf : ∀ X l, AppA E fv [.agg (Loc.cells l)] X (Is X (.bool (p l)))) :
    CallsA E 29 [.str s, fv] H (Is H (.bool (placeE s p))) := by
  have hP := fun X => Parse_A s X hs
  have hq : (s == []) = (s == ({ data := #[] } : ByteArray).data.toList) := rfl
  unfold placeE
  generalize parseE s = pe at *
  obtain ⟨l, e⟩ := pe
  have hfl := fun X => hf X l
  clear hf
  dsimp only at hP ⊢
  generalize p l = b at *
  rw [hq]
  refine .enter Tryz.func29 rfl rfl rfl 21 Tryz.ntmps29 (Nat.le_of_ble_eq_true rfl) ?_
  repeat' first
    | refine WpA.seq ?_
    | refine WpA.region ?_
    | refine WpOps.op _ rfl rfl rfl rfl rfl ?_
    | refine WpOps.alloc _ rfl rfl rfl rfl rfl rfl ?_
    | refine WpOps.store rfl rfl rfl rfl rfl rfl rfl rfl rfl rfl ?_
    | refine WpOps.skip rfl rfl rfl ?_
    | (refine WpOps.call rfl rfl rfl rfl rfl (by exact hP _) ?_; rintro _ _ ⟨rfl, rfl⟩)
    | (refine WpOps.callV rfl rfl rfl rfl rfl (by exact hfl _) ?_; rintro _ _ ⟨rfl, rfl⟩)
    | refine WpOps.gsplit _ rfl rfl rfl (fun h => ?_) (fun h => ?_)
    | refine WpOps.nil ?_
    | refine WpA.ret ?_
    | refine WpA.skip ?_
    | refine WpA.cond _ rfl (fun h => ?_) (fun h => ?_)
  all_goals
    refine retK.ok rfl rfl (congrArg AV.bool ?_) .bool
    clear hP hfl hq
    simp_all
theorem isDir_A (l : Loc) (H : List AObj) : CallsA E 30 [.agg l.cells] H (Is H (.bool l.dir)) := by
  refine .enter Tryz.func30 rfl rfl rfl 5 Tryz.ntmps30 (Nat.le_of_ble_eq_true rfl) ?_
  repeat' first
    | refine WpA.seq ?_
    | refine WpA.region ?_
    | refine WpOps.op _ rfl rfl rfl rfl rfl ?_
    | refine WpOps.box _ rfl rfl rfl rfl rfl ?_
    | refine WpOps.nil ?_
    | refine WpA.ret ?_
  exact retK.ok rfl rfl rfl .bool
theorem isFile_A (l : Loc) (H : List AObj) : CallsA E 31 [.agg l.cells] H (Is H (.bool (!l.dir))) := by
  refine .enter Tryz.func31 rfl rfl rfl 6 Tryz.ntmps31 (Nat.le_of_ble_eq_true rfl) ?_
  repeat' first
    | refine WpA.seq ?_
    | refine WpA.region ?_
    | refine WpOps.op _ rfl rfl rfl rfl rfl ?_
    | refine WpOps.box _ rfl rfl rfl rfl rfl ?_
    | refine WpOps.nil ?_
    | refine WpA.ret ?_
  exact retK.ok rfl rfl rfl .bool
def secL (l : Loc) : Bool := !l.dir && (l.sch == 2)
theorem isSec_A (l : Loc) (H : List AObj) : CallsA E 32 [.agg l.cells] H (Is H (.bool (secL l))) := by
  refine .enter Tryz.func32 rfl rfl rfl 11 Tryz.ntmps32 (Nat.le_of_ble_eq_true rfl) ?_
  unfold secL
  obtain ⟨sch, host, port, parts, dir⟩ := l
  dsimp only
  repeat' first
    | refine WpA.seq ?_
    | refine WpA.region ?_
    | refine WpOps.op _ rfl rfl rfl rfl rfl ?_
    | refine WpOps.box _ rfl rfl rfl rfl rfl ?_
    | refine WpOps.skip rfl rfl rfl ?_
    | refine WpOps.gsplit _ rfl rfl rfl (fun h => ?_) (fun h => ?_)
    | refine WpOps.nil ?_
    | refine WpA.ret ?_
  all_goals
    refine retK.ok rfl rfl (congrArg AV.bool ?_) .bool
    simp_all
theorem refPlace_A (s : List UInt8) (d : Bool) (H : List AObj) (hs : s.length ≤ 1000000) : CallsA E 42 [.str s, .bool d] H (Is H (.bool (placeE s (fun l => l.dir == d)))) := by
  have hP := fun X => refParse_A s X hs
  have hq : (s == []) = (s == ({ data := #[] } : ByteArray).data.toList) := rfl
  unfold placeE
  generalize parseE s = pe at *
  obtain ⟨l, e⟩ := pe
  obtain ⟨sch, host, port, parts, dir⟩ := l
  dsimp only at hP ⊢
  rw [hq]
  refine .enter Tryz.func42 rfl rfl rfl 22 Tryz.ntmps42 (Nat.le_of_ble_eq_true rfl) ?_
  repeat' first
    | refine WpA.seq ?_
    | refine WpA.region ?_
    | refine WpOps.op _ rfl rfl rfl rfl rfl ?_
    | refine WpOps.alloc _ rfl rfl rfl rfl rfl rfl ?_
    | refine WpOps.store rfl rfl rfl rfl rfl rfl rfl rfl rfl rfl ?_
    | refine WpOps.skip rfl rfl rfl ?_
    | (refine WpOps.call rfl rfl rfl rfl rfl (by exact hP _) ?_; rintro _ _ ⟨rfl, rfl⟩)
    | refine WpOps.gsplit _ rfl rfl rfl (fun h => ?_) (fun h => ?_)
    | refine WpOps.nil ?_
    | refine WpA.ret ?_
    | refine WpA.skip ?_
    | refine WpA.cond _ rfl (fun h => ?_) (fun h => ?_)
  all_goals
    refine retK.ok rfl rfl (congrArg AV.bool ?_) .bool
    clear hP hq
    simp_all
theorem refSecure_A (s : List UInt8) (H : List AObj) (hs : s.length ≤ 1000000) : CallsA E 43 [.str s] H (Is H (.bool (placeE s secL))) := by
  have hP := fun X => refParse_A s X hs
  have hQ := fun X => refPlace_A s false X hs
  have hq : (s == []) = (s == ({ data := #[] } : ByteArray).data.toList) := rfl
  unfold placeE at hQ ⊢
  unfold secL
  generalize parseE s = pe at *
  obtain ⟨l, e⟩ := pe
  obtain ⟨sch, host, port, parts, dir⟩ := l
  dsimp only at hP hQ ⊢
  rw [hq] at hQ ⊢
  refine .enter Tryz.func43 rfl rfl rfl 21 Tryz.ntmps43 (Nat.le_of_ble_eq_true rfl) ?_
  repeat' first
    | refine WpA.seq ?_
    | refine WpA.region ?_
    | refine WpOps.op _ rfl rfl rfl rfl rfl ?_
    | refine WpOps.alloc _ rfl rfl rfl rfl rfl rfl ?_
    | refine WpOps.store rfl rfl rfl rfl rfl rfl rfl rfl rfl rfl ?_
    | refine WpOps.skip rfl rfl rfl ?_
    | (refine WpOps.call rfl rfl rfl rfl rfl (by exact hP _) ?_; rintro _ _ ⟨rfl, rfl⟩)
    | (refine WpOps.call rfl rfl rfl rfl rfl (by exact hQ _) ?_; rintro _ _ ⟨rfl, rfl⟩)
    | refine WpOps.gsplit _ rfl rfl rfl (fun h => ?_) (fun h => ?_)
    | refine WpOps.nil ?_
    | refine WpA.ret ?_
  all_goals
    refine retK.ok rfl rfl (congrArg AV.bool ?_) .bool
    clear hP hQ hq
    simp_all
end Go.Gp.Tryz

/- Certificates: the program's Check. -/
namespace Go.Gp.Tryz
variable [Inhabited MaxLenT]
open Go.Proofs
set_option linter.unusedVariables false
set_option linter.unusedSimpArgs false
set_option linter.unusedSectionVars false
set_option maxHeartbeats 4000000

def isFileL (l : Loc) : Bool := !l.dir
def okA1 (c : Crt) : Bool := (resE c.res == 0) && decide (c.serial > 0) && name1 c.issuer && name1 c.subject && (winCode c.f c.t == 0)
def okA2 (c : Crt) : Bool := decide (c.height ≥ 0) && decide (c.height ≤ 4) && (!c.inherit || emptyR c.res)
def okA3 (c : Crt) : Bool := placeE c.repo Loc.dir && placeE c.man isFileL && placeE c.crl isFileL && placeE c.parent isFileL
def okA4 (c : Crt) : Bool := placeE c.notify secL
def okSig (c : Crt) : Bool := emptySig c.idx c.ch c.pa || (sigE c.pa.length c.idx c.ch.length c.pa.length == 0)
def certE (c : Crt) : Int := if resE c.res = 4 then 4 else if (okA1 c && okA2 c && okA3 c && okA4 c && okSig c) = true then 0 else 8
theorem certCheck_A (c : Crt) (H : List AObj) (hc : c.sm) : CallsA E 15 [.agg c.cells] H (Is H (.int .i64 (certE c))) := by
  have c1 : ∀ X, CallsA E 25 [.agg [.sl .no 4 (spRows c.res.v4), .sl .no 4 (spRows c.res.v6), .sl .no 2 (asRows c.res.sy)]] X (Is X (.int .i64 (resE c.res))) := fun X => resCheck_A c.res X hc.rs hc.ro
  have c2 : ∀ X, CallsA E 28 [.agg [.sl .no 4 (spRows c.res.v4), .sl .no 4 (spRows c.res.v6), .sl .no 2 (asRows c.res.sy)]] X (Is X (.bool (emptyR c.res))) := fun X => empty_A c.res X hc.rs
  have c3 := fun X => name1_A c.issuer X (by have := hc.issuer; omega)
  have c4 := fun X => name1_A c.subject X (by have := hc.subject; omega)
  have c5 := fun X => winCheck_A c.f c.t X
  have c6 := fun X => place_A c.repo (.func 30 []) Loc.dir X (by have := hc.repo; omega) (fun X l => AppA.of_calls (caps := []) (args := [.agg l.cells]) (isDir_A l X))
  have c7 := fun X => place_A c.man (.func 31 []) isFileL X (by have := hc.man; omega) (fun X l => AppA.of_calls (caps := []) (args := [.agg l.cells]) (isFile_A l X))
  have c8 := fun X => place_A c.crl (.func 31 []) isFileL X (by have := hc.crl; omega) (fun X l => AppA.of_calls (caps := []) (args := [.agg l.cells]) (isFile_A l X))
  have c9 := fun X => place_A c.parent (.func 31 []) isFileL X (by have := hc.parent; omega) (fun X l => AppA.of_calls (caps := []) (args := [.agg l.cells]) (isFile_A l X))
  have c10 := fun X => place_A c.notify (.func 32 []) secL X (by have := hc.notify; omega) (fun X l => AppA.of_calls (caps := []) (args := [.agg l.cells]) (isSec_A l X))
  have c11 := fun X => certEmpty_A c.idx c.ch c.pa X
  have c12 := fun X => sigCheck_A c.pa.length c.idx c.ch c.pa X
  have e1 : okA1 c = ((resE c.res == 0) && decide (c.serial > 0) && name1 c.issuer && name1 c.subject && (winCode c.f c.t == 0)) := rfl
  have e2 : okA2 c = (decide (c.height ≥ 0) && decide (c.height ≤ 4) && (!c.inherit || emptyR c.res)) := rfl
  have e3 : okA3 c = (placeE c.repo Loc.dir && placeE c.man isFileL && placeE c.crl isFileL && placeE c.parent isFileL) := rfl
  have e4 : okA4 c = placeE c.notify secL := rfl
  have e5 : okSig c = (emptySig c.idx c.ch c.pa || (sigE c.pa.length c.idx c.ch.length c.pa.length == 0)) := rfl
  have e6 : certE c = if resE c.res = 4 then 4 else if (okA1 c && okA2 c && okA3 c && okA4 c && okSig c) = true then 0 else 8 := rfl
  unfold sigC at c11 c12
  rw [e6]
  clear e6 hc
  generalize hC : c.cells = cs at *
  generalize okA1 c = k1 at *
  generalize okA2 c = k2 at *
  generalize okA3 c = k3 at *
  generalize okA4 c = k4 at *
  generalize okSig c = k5 at *
  generalize resE c.res = re at *
  generalize emptyR c.res = er at *
  generalize name1 c.issuer = n1 at *
  generalize name1 c.subject = n2 at *
  generalize winCode c.f c.t = wc at *
  generalize placeE c.repo Loc.dir = p1 at *
  generalize placeE c.man isFileL = p2 at *
  generalize placeE c.crl isFileL = p3 at *
  generalize placeE c.parent isFileL = p4 at *
  generalize placeE c.notify secL = p5 at *
  generalize emptySig c.idx c.ch c.pa = es at *
  generalize sigE c.pa.length c.idx c.ch.length c.pa.length = se at *
  obtain ⟨serial, issuer, subject, f, t, rt, height, ca, inherit, ⟨v4, v6, sy⟩, repo, man, notify, crl, parent, idx, ch, pa⟩ := c
  dsimp only at *
  refine .enter Tryz.func15 rfl rfl rfl 102 Tryz.ntmps15 (Nat.le_of_ble_eq_true rfl) ?_
  subst hC
  refine WpA.seq ?_
  repeat' first
    | refine WpA.region ?_
    | refine WpOps.op _ rfl rfl rfl rfl rfl ?_
    | refine WpOps.box _ rfl rfl rfl rfl rfl ?_
    | refine WpOps.nil ?_
  refine WpA.cutS [(1, .ptr H.length 0 0), (3, .int .i64 re)] (H ++ [.cells (Crt.cells ⟨serial, issuer, subject, f, t, rt, height, ca, inherit, ⟨v4, v6, sy⟩, repo, man, notify, crl, parent, idx, ch, pa⟩)]) ?_ ?_
  · repeat' first
      | refine WpA.region ?_
      | refine WpOps.op _ rfl rfl rfl rfl rfl ?_
      | (refine WpOps.call rfl rfl rfl rfl rfl (by exact c1 _) ?_; rintro _ _ ⟨rfl, rfl⟩)
      | refine WpOps.nil ?_
    exact ⟨rfl, ⟨rfl, rfl, trivial⟩, rfl⟩
  by_cases h4 : re = 4
  · have d4 : (re == 4) = true := by simpa using h4
    rw [if_pos h4]
    repeat' first
      | refine WpA.condT (congrArg AV.bool d4) ?_
      | refine WpA.seq ?_
      | refine WpA.region ?_
      | refine WpOps.op _ rfl rfl rfl rfl rfl ?_
      | refine WpOps.nil ?_
      | refine WpA.ret ?_
    exact retK.ok rfl rfl (by rw [← h4]; rfl) .int
  have d4 : (re == 4) = false := by simpa using h4
  rw [if_neg h4]
  refine WpA.cutS [(1, .ptr H.length 0 0), (3, .int .i64 re)] (H ++ [.cells (Crt.cells ⟨serial, issuer, subject, f, t, rt, height, ca, inherit, ⟨v4, v6, sy⟩, repo, man, notify, crl, parent, idx, ch, pa⟩)]) ?_ ?_
  · repeat' first
      | refine WpA.condF (congrArg AV.bool d4) ?_
      | refine WpA.seq ?_
      | refine WpA.region ?_
      | refine WpOps.op _ rfl rfl rfl rfl rfl ?_
      | refine WpOps.nil ?_
      | refine WpA.skip ?_
    exact ⟨rfl, ⟨rfl, rfl, trivial⟩, rfl⟩
  refine WpA.cutS [(1, .ptr H.length 0 0), (4, .bool k1)] (H ++ [.cells (Crt.cells ⟨serial, issuer, subject, f, t, rt, height, ca, inherit, ⟨v4, v6, sy⟩, repo, man, notify, crl, parent, idx, ch, pa⟩)]) ?_ ?_
  · rw [e1]
    repeat' first
      | refine WpA.region ?_
      | refine WpOps.op _ rfl rfl rfl rfl rfl ?_
      | refine WpOps.skip rfl rfl rfl ?_
      | (refine WpOps.call rfl rfl rfl rfl rfl (by exact c3 _) ?_; rintro _ _ ⟨rfl, rfl⟩)
      | (refine WpOps.call rfl rfl rfl rfl rfl (by exact c4 _) ?_; rintro _ _ ⟨rfl, rfl⟩)
      | (refine WpOps.call rfl rfl rfl rfl rfl (by exact c5 _) ?_; rintro _ _ ⟨rfl, rfl⟩)
      | refine WpOps.gsplit _ rfl rfl rfl (fun h => ?_) (fun h => ?_)
      | refine WpOps.nil ?_
    all_goals
      refine ⟨rfl, ⟨rfl, congrArg AV.bool ?_, trivial⟩, rfl⟩
      clear c1 c2 c3 c4 c5 c6 c7 c8 c9 c10 c11 c12 e1 e2 e3 e4 e5
      simp_all
      try (intros; exfalso; omega)
  refine WpA.cutS [(1, .ptr H.length 0 0), (4, .bool (k1 && k2))] (H ++ [.cells (Crt.cells ⟨serial, issuer, subject, f, t, rt, height, ca, inherit, ⟨v4, v6, sy⟩, repo, man, notify, crl, parent, idx, ch, pa⟩)]) ?_ ?_
  · rw [e2]
    repeat' first
      | refine WpA.region ?_
      | refine WpOps.op _ rfl rfl rfl rfl rfl ?_
      | refine WpOps.skip rfl rfl rfl ?_
      | (refine WpOps.call rfl rfl rfl rfl rfl (by exact c2 _) ?_; rintro _ _ ⟨rfl, rfl⟩)
      | refine WpOps.gsplit _ rfl rfl rfl (fun h => ?_) (fun h => ?_)
      | refine WpOps.nil ?_
    all_goals
      refine ⟨rfl, ⟨rfl, congrArg AV.bool ?_, trivial⟩, rfl⟩
      clear c1 c2 c3 c4 c5 c6 c7 c8 c9 c10 c11 c12 e1 e2 e3 e4 e5
      simp_all
      try (intros; exfalso; omega)
  refine WpA.cutS [(1, .ptr H.length 0 0), (4, .bool (k1 && k2 && k3))] (H ++ [.cells (Crt.cells ⟨serial, issuer, subject, f, t, rt, height, ca, inherit, ⟨v4, v6, sy⟩, repo, man, notify, crl, parent, idx, ch, pa⟩)]) ?_ ?_
  · rw [e3]
    generalize (k1 && k2) = kk at *
    repeat' first
      | refine WpA.region ?_
      | refine WpOps.op _ rfl rfl rfl rfl rfl ?_
      | refine WpOps.skip rfl rfl rfl ?_
      | (refine WpOps.call rfl rfl rfl rfl rfl (by exact c6 _) ?_; rintro _ _ ⟨rfl, rfl⟩)
      | (refine WpOps.call rfl rfl rfl rfl rfl (by exact c7 _) ?_; rintro _ _ ⟨rfl, rfl⟩)
      | (refine WpOps.call rfl rfl rfl rfl rfl (by exact c8 _) ?_; rintro _ _ ⟨rfl, rfl⟩)
      | (refine WpOps.call rfl rfl rfl rfl rfl (by exact c9 _) ?_; rintro _ _ ⟨rfl, rfl⟩)
      | refine WpOps.gsplit _ rfl rfl rfl (fun h => ?_) (fun h => ?_)
      | refine WpOps.nil ?_
    all_goals
      refine ⟨rfl, ⟨rfl, congrArg AV.bool ?_, trivial⟩, rfl⟩
      clear c1 c2 c3 c4 c5 c6 c7 c8 c9 c10 c11 c12 e1 e2 e3 e4 e5
      simp_all
      try (intros; exfalso; omega)
  refine WpA.cutS [(1, .ptr H.length 0 0), (4, .bool (k1 && k2 && k3 && k4))] (H ++ [.cells (Crt.cells ⟨serial, issuer, subject, f, t, rt, height, ca, inherit, ⟨v4, v6, sy⟩, repo, man, notify, crl, parent, idx, ch, pa⟩)]) ?_ ?_
  · rw [e4]
    generalize (k1 && k2 && k3) = kk at *
    repeat' first
      | refine WpA.region ?_
      | refine WpOps.op _ rfl rfl rfl rfl rfl ?_
      | refine WpOps.skip rfl rfl rfl ?_
      | (refine WpOps.call rfl rfl rfl rfl rfl (by exact c10 _) ?_; rintro _ _ ⟨rfl, rfl⟩)
      | refine WpOps.gsplit _ rfl rfl rfl (fun h => ?_) (fun h => ?_)
      | refine WpOps.nil ?_
    all_goals
      refine ⟨rfl, ⟨rfl, congrArg AV.bool ?_, trivial⟩, rfl⟩
      clear c1 c2 c3 c4 c5 c6 c7 c8 c9 c10 c11 c12 e1 e2 e3 e4 e5
      simp_all
      try (intros; exfalso; omega)
  rw [e5]
  generalize (k1 && k2 && k3 && k4) = kk at *
  repeat' first
    | refine WpA.seq ?_
    | refine WpA.region ?_
    | refine WpOps.op _ rfl rfl rfl rfl rfl ?_
    | refine WpOps.skip rfl rfl rfl ?_
    | (refine WpOps.call rfl rfl rfl rfl rfl (by exact c11 _) ?_; rintro _ _ ⟨rfl, rfl⟩)
    | (refine WpOps.call rfl rfl rfl rfl rfl (by exact c12 _) ?_; rintro _ _ ⟨rfl, rfl⟩)
    | refine WpOps.gsplit _ rfl rfl rfl (fun h => ?_) (fun h => ?_)
    | refine WpOps.nil ?_
    | refine WpA.ret ?_
    | refine WpA.skip ?_
    | refine WpA.condT rfl ?_
    | refine WpA.condF rfl ?_
    | refine WpA.cond _ rfl (fun h => ?_) (fun h => ?_)
  all_goals
    refine retK.ok rfl rfl (congrArg (AV.int .i64) ?_) .int
    clear c1 c2 c3 c4 c5 c6 c7 c8 c9 c10 c11 c12 e1 e2 e3 e4 e5
    simp_all
end Go.Gp.Tryz

/- The reference of resources: lists, Valid. -/
namespace Go.Gp.Tryz
variable [Inhabited MaxLenT]
open Go.Proofs
set_option linter.unusedVariables false
set_option linter.unusedSimpArgs false
set_option linter.unusedSectionVars false
set_option maxHeartbeats 4000000

theorem refWide_A (l : List As) (H : List AObj) (hl : l.length ≤ 1000000) (hok : ∀ a ∈ l, a.ok) :
    CallsA E 72 [.sl .no 2 (asRows l)] H (Is H (.sl .no 4 (spRows (l.map wideS)))) := by
  have hlen := asRows_len l
  refine .enter Tryz.func72 rfl rfl rfl 30 Tryz.ntmps72 (Nat.le_of_ble_eq_true rfl) ?_
  refine WpA.seq ?_
  repeat' first
    | refine WpA.region ?_
    | refine WpOps.op _ rfl rfl rfl rfl rfl ?_
    | refine WpOps.nil ?_
  refine WpA.seq ?_
  repeat' first
    | refine WpA.region ?_
    | refine WpOps.op _ rfl rfl rfl rfl rfl ?_
    | refine WpOps.nil ?_
  refine WpA.weak (T := [(0, .sl .no 2 (asRows l)), (3, .sl .full 0 [])]) ⟨rfl, rfl, trivial⟩ ?_
  show WpA E none 30 _ _ _ (H ++ [])
  refine WpA.adoptS 3 4 rfl ?_
  repeat' first
    | refine WpA.seq ?_
    | refine WpA.region ?_
    | refine WpOps.op _ rfl rfl rfl rfl rfl ?_
    | refine WpA.block ?_
    | refine WpOps.nil ?_
  refine WpA.loopG l.length (fun i => [(0, .sl .no 2 (asRows l)), (3, .sl (.row H.length 0) 4 (spRows ((l.take i).map wideS))), (4, .int .i64 (i : Nat))])
    (fun i => H ++ [.tail (spRows ((l.take i).map wideS)).length 4]) (fun _ => True) trivial ⟨rfl, rfl, rfl, trivial⟩ rfl (fun _ _ => by simp) (fun i hi _ => ?_) (fun i hi _ => ⟨bd_asRows _, bd_spRow _ (by simp), .int, trivial⟩) (fun i hi _ => ?_) (fun _ => ?_) (fun _ => ⟨rfl, rfl, rfl, trivial⟩)
  · refine TrOk.app fun k o hk => ?_
    rcases k with _ | k
    · injection hk with hk; subst hk; exact .inr obd_tail
    · cases hk
  · have hd : decide (((i : Nat) : Int) < (((asRows l).length : Nat) : Int)) = true := decide_eq_true (by rw [hlen]; omega)
    have hg := asRows_get hi
    obtain ⟨h1, h2⟩ := hok _ (List.getElem_mem hi)
    have e1 : spRows ((l.take (i + 1)).map wideS) = spRows ((l.take i).map wideS) ++ [(wideS l[i]).cells] := by
      rw [List.take_succ_eq_append_getElem hi, List.map_append, spRows, spRows, List.map_append]; rfl
    have hrl : (spRows ((l.take i).map wideS)).length = i := by rw [spRows_len, List.length_map, List.length_take]; omega
    have w1 : IntKind.u64.wrap (l[i].f : Int) = l[i].f := wrapu64 (by omega) (by omega)
    have w2 : IntKind.u64.wrap (l[i].t : Int) = l[i].t := wrapu64 (by omega) (by omega)
    have hc : (wideS l[i]).cells = [.int .u64 0, .int .u64 (IntKind.u64.wrap (l[i].f : Int)), .int .u64 0, .int .u64 (IntKind.u64.wrap (l[i].t : Int))] := by rw [w1, w2]; rfl
    have hone := sp_one (wideS l[i])
    rw [hc] at hone
    rw [e1, hc]
    rw [As.cells] at hg
    generalize spRows ((l.take i).map wideS) = out at *
    clear hc w1 w2 h1 h2 e1
    generalize (l[i].f : Int) = f at *
    generalize (l[i].t : Int) = t at *
    have hfit : (out.length + 1) * 32 ≤ 140737488355328 := by omega
    repeat' first
      | refine WpA.condT (congrArg AV.bool hd) ?_
      | refine WpA.drawI (id := 5) [] [0, 0, 0, 0, 0, 0, 0, 0, 0, 0, 0, 0, 0, 0, 0, 0, 0, 2, 0] (by kernel_rfl) (by kernel_rfl) ?_
      | (refine LexH.elem _ rfl rfl rfl rfl rfl rfl rfl rfl rfl rfl (Int.natCast_nonneg i) hg ?_)
      | (refine LexH.appR (ys := [[.int .u64 0, .int .u64 (IntKind.u64.wrap f), .int .u64 0, .int .u64 (IntKind.u64.wrap t)]]) rfl rfl rfl rfl rfl rfl rfl rfl (fun k h => by cases h) rfl rfl rfl rfl rfl rfl (by exact hone) (by exact hfit) ?_)
      | refine WpA.seq ?_
      | refine WpA.region ?_
      | refine WpOps.op _ rfl rfl rfl rfl rfl ?_
      | refine WpA.block ?_
      | refine WpOps.nil ?_
      | refine WpA.skip ?_
      | refine LexH.op0 _ rfl rfl rfl rfl rfl (fun _ => rfl) ?_
      | refine LexH.build _ rfl rfl rfl rfl rfl rfl ?_
      | refine LexH.buildSlice _ rfl rfl rfl rfl rfl rfl rfl rfl rfl rfl rfl rfl ?_
      | refine LexH.nil ?_
    exact ⟨trivial, ⟨rfl, rfl, congrArg (AV.int .i64) (wrap64 (by omega) (by omega)), trivial⟩, [], by simp; rfl⟩
  · rw [List.take_length]
    have hd : decide (((l.length : Nat) : Int) < (((asRows l).length : Nat) : Int)) = false := decide_eq_false (by rw [hlen]; omega)
    repeat' first
      | refine WpA.condF (congrArg AV.bool hd) ?_
      | refine WpA.seq ?_
      | refine WpA.region ?_
      | refine WpOps.op _ rfl rfl rfl rfl rfl ?_
      | refine WpA.exit ?_
      | refine WpOps.nil ?_
      | refine WpA.ret ?_
    exact retK.sub (.inr rfl) rfl (TrOk.refl H) (L := _) rfl rfl Sub.untag (bd_spNo _) ⟨rfl, rfl⟩
def listsAV (r : Res) : AV := .tup [.sl .no 1 [[.sl .no 4 (spRows r.v4)], [.sl .no 4 (spRows r.v6)], [.sl .no 4 (spRows r.asw)]], .sl .no 1 [[.int .u8 4], [.int .u8 6], [.int .u8 4]]]
theorem lists_bd {n : Nat} (r : Res) : Bd n (listsAV r) := .tup fun x hx => by
  simp only [List.mem_cons, List.not_mem_nil, or_false] at hx
  rcases hx with rfl | rfl
  · refine .sl (fun _ _ e => by cases e) fun x hx e he => ?_
    simp only [List.mem_cons, List.not_mem_nil, or_false] at hx
    rcases hx with rfl | rfl | rfl <;> (have := List.mem_singleton.1 he; subst this; exact bd_spNo _)
  · refine .sl (fun _ _ e => by cases e) fun x hx e he => ?_
    simp only [List.mem_cons, List.not_mem_nil, or_false] at hx
    rcases hx with rfl | rfl | rfl <;> (have := List.mem_singleton.1 he; subst this; exact .int)
theorem lists_A (r : Res) (H : List AObj) (hs : r.small) (ho : r.ok) : CallsA E 50 [.agg r.cells] H (Is H (listsAV r)) := by
  have hC := fun X => refWide_A r.sy X (by have := hs.2.2; omega) ho.2.2
  have hb := fun n => lists_bd (n := n) r
  unfold listsAV Res.asw at *
  unfold Res.cells
  generalize spRows (r.sy.map wideS) = cc at *
  generalize spRows r.v4 = aa at *
  generalize spRows r.v6 = bb at *
  generalize asRows r.sy = dd at *
  refine .enter Tryz.func50 rfl rfl rfl 13 Tryz.ntmps50 (Nat.le_of_ble_eq_true rfl) ?_
  repeat' first
    | refine WpA.seq ?_
    | refine WpA.region ?_
    | refine WpOps.op _ rfl rfl rfl rfl rfl ?_
    | refine WpOps.box _ rfl rfl rfl rfl rfl ?_
    | (refine LexA.buildSlice _ rfl rfl rfl rfl rfl rfl rfl rfl rfl rfl rfl ?_)
    | refine WpOps.nil ?_
    | refine WpA.ret ?_
    | refine WpA.draw (by kernel_rfl) ?_
    | refine LexA.op _ rfl rfl rfl rfl rfl ?_
    | refine LexA.call rfl rfl rfl rfl rfl (by exact hC _) ?_
    | refine LexA.nil ?_
  exact retK.ok («as» := [.sl .full 1 [[.sl .no 4 aa], [.sl .no 4 bb], [.sl .no 4 cc]], .sl .full 1 [[.int .u8 4], [.int .u8 6], [.int .u8 4]]]) rfl rfl rfl (hb _)
end Go.Gp.Tryz

/- The reference of addresses: bits. -/
namespace Go.Gp.Tryz
variable [Inhabited MaxLenT]
open Go.Proofs
set_option linter.unusedVariables false
set_option linter.unusedSimpArgs false
set_option linter.unusedSectionVars false
set_option maxHeartbeats 4000000

/-- A bit of an address, as the reference reads it: the most significant one has the number w - 1. -/
def bitK (a : Ad) (k : Nat) : Nat := if 63 < k then a.hi / 2 ^ (k - 64) % 2 else a.lo / 2 ^ k % 2
def bitsL (a : Ad) (w : Nat) : List Nat := (List.range w).map fun i => bitK a (w - 1 - i)
def bitCells (l : List Nat) : List AV := l.map fun b : Nat => .int .i64 (b : Int)
/-- What the reference's Bits leaves: a row of one's own. -/
def BitsR (w : Nat) (l : List Nat) (H : List AObj) (m0 q0 : Nat) : AEnd → List AObj → Prop := fun e H' => ∃ J r, H' = H ++ J ∧ J[r]? = some (.cells (bitCells l)) ∧ e = .ret (.ov m0 (r + q0) 0 1 w)
theorem Sub.ovR {m q m' q' off z len : Nat} (h : m + q = m' + q') : Sub (.ov m q off z len) (.ov m' q' off z len) := fun c x hx => by
  cases hx with
  | ov hb hc hs => exact .ov (by rw [← h]; exact hb) hc hs
def fldB (n : Nat) : Nat → Nat → AV
  | 0, _ => .sl .full 0 []
  | i + 1, r => .ov n (r + 1) 0 1 (i + 1)
theorem bitsL_len (a : Ad) (w : Nat) : (bitsL a w).length = w := by simp [bitsL]
theorem bitsL_take {a : Ad} {w i : Nat} (h : i < w) : bitCells ((bitsL a w).take (i + 1)) = bitCells ((bitsL a w).take i) ++ [.int .i64 ((bitK a (w - 1 - i) : Nat) : Int)] := by
  have hl := bitsL_len a w
  rw [List.take_succ_eq_append_getElem (by omega), bitCells, bitCells, List.map_append]
  simp [bitsL]
theorem bit_val {x m : Nat} (hx : x < 18446744073709551616) : IntKind.i64.wrap ((IntKind.u64.wrap ((x : Int).tdiv ((m : Int) + 1))).tmod (1 + 1)) = ((x / (m + 1) % 2 : Nat) : Int) := by
  have e1 : (x : Int).tdiv ((m : Int) + 1) = ((x / (m + 1) : Nat) : Int) := by
    rw [show ((m : Int) + 1) = ((m + 1 : Nat) : Int) by omega]
    exact (Int.ofNat_tdiv x (m + 1)).symm
  have h2 : x / (m + 1) ≤ x := Nat.div_le_self _ _
  rw [e1]
  generalize x / (m + 1) = y at *
  rw [wrapu64 (by omega) (by omega), show ((1 : Int) + 1) = ((2 : Nat) : Int) by rfl, ← Int.ofNat_tmod y 2]
  exact wrap64 (by omega) (by omega)
theorem bits_A (fam : Int) (w : Nat) (hw : wid fam = (w : Nat)) (hw2 : 0 < w ∧ w ≤ 128) (a : Ad) (ha : a.ok) (H : List AObj) (m0 q0 : Nat) (hm0 : m0 + q0 = H.length) : CallsA E 87 [.int .u8 fam, .agg a.cells] H (BitsR w (bitsL a w) H m0 q0) := by
  have hW := fun X => width_A fam X
  rw [hw] at hW
  obtain ⟨hi, lo⟩ := a
  obtain ⟨a1, a2⟩ := ha
  dsimp only at a1 a2
  refine .enter Tryz.func87 rfl rfl rfl 39 Tryz.ntmps87 (Nat.le_of_ble_eq_true rfl) ?_
  repeat' first
    | refine WpA.seq ?_
    | refine WpA.region ?_
    | refine WpOps.op _ rfl rfl rfl rfl rfl ?_
    | refine WpOps.box _ rfl rfl rfl rfl rfl ?_
    | (refine WpOps.call rfl rfl rfl rfl rfl (by exact hW _) ?_; rintro _ _ ⟨rfl, rfl⟩)
    | refine WpA.block ?_
    | refine WpOps.nil ?_
  refine WpA.loopS (α := Nat × List AObj × Nat) (fun s => [(3, .ptr H.length 0 0), (5, fldB H.length s.1 s.2.2), (6, .int .i64 (w : Nat)), (7, .int .i64 (s.1 : Nat))])
    (fun s => H ++ (.cells [.int .u64 (hi : Int), .int .u64 (lo : Int)] :: s.2.1)) (fun s => s.1 ≤ w ∧ (0 < s.1 → s.2.1[s.2.2]? = some (.cells (bitCells ((bitsL ⟨hi, lo⟩ w).take s.1))))) (fun s => w - s.1) (0, [], 0) ⟨Nat.zero_le _, fun h => absurd h (by simp)⟩ ⟨rfl, rfl, rfl, rfl, trivial⟩ rfl (fun s hs => ?_)
  obtain ⟨i, J, r⟩ := s
  obtain ⟨hiw, hJ⟩ := hs
  dsimp only at hiw hJ ⊢
  by_cases hlt : i < w
  · have hd : decide (((i : Nat) : Int) < ((w : Nat) : Int)) = true := decide_eq_true (by omega)
    have htk := bitsL_take (a := ⟨hi, lo⟩) hlt
    obtain ⟨k, hk⟩ : ∃ k, k = w - 1 - i := ⟨_, rfl⟩
    have hkw : IntKind.i64.wrap (IntKind.i64.wrap (((w : Nat) : Int) - 1) - ((i : Nat) : Int)) = ((k : Nat) : Int) := by
      rw [wrap64 (x := ((w : Nat) : Int) - 1) (by omega) (by omega), wrap64 (by omega) (by omega)]; omega
    rw [← hk] at htk
    obtain ⟨k', hk'⟩ : ∃ k', k' = if 63 < k then k - 64 else k := ⟨_, rfl⟩
    obtain ⟨x, hx⟩ : ∃ x, x = if 63 < k then hi else lo := ⟨_, rfl⟩
    have hk63 : k' ≤ 63 := by rw [hk']; split <;> omega
    have hx64 : x < 18446744073709551616 := by rw [hx]; split <;> assumption
    have hbk : bitK ⟨hi, lo⟩ k = x / 2 ^ k' % 2 := by rw [bitK, hx, hk']; split <;> rfl
    have hP := fun X => power_A k' X hk63
    obtain ⟨m, hm⟩ : ∃ m, 2 ^ k' = m + 1 := ⟨2 ^ k' - 1, by have := Nat.two_pow_pos k'; omega⟩
    rw [hm] at hbk
    rw [hm] at hP
    have hbv := bit_val (m := m) hx64
    rw [hbk, ← hbv] at htk
    refine WpA.cutS [(3, .ptr H.length 0 0), (5, fldB H.length i r), (6, .int .i64 (w : Nat)), (7, .int .i64 (i : Nat))] (H ++ (.cells [.int .u64 (hi : Int), .int .u64 (lo : Int)] :: J)) (by
      repeat' first
        | refine WpA.condT (congrArg AV.bool hd) ?_
        | refine WpA.seq ?_
        | refine WpA.region ?_
        | refine WpOps.op _ rfl rfl rfl rfl rfl ?_
        | refine WpOps.nil ?_
        | refine WpA.skip ?_
      exact ⟨rfl, ⟨rfl, rfl, rfl, rfl, trivial⟩, rfl⟩) ?_
    refine WpA.seq ?_
    refine WpA.block ?_
    refine WpA.cutS [(3, .ptr H.length 0 0), (5, fldB H.length i r), (6, .int .i64 (w : Nat)), (7, .int .i64 (i : Nat)), (8, .int .i64 (k : Nat))] (H ++ (.cells [.int .u64 (hi : Int), .int .u64 (lo : Int)] :: J)) (by
      repeat' first
        | refine WpA.region ?_
        | refine WpOps.op _ rfl rfl rfl rfl rfl ?_
        | refine WpOps.nil ?_
      exact ⟨rfl, ⟨rfl, rfl, rfl, rfl, congrArg (AV.int .i64) hkw, trivial⟩, rfl⟩) ?_
    refine WpA.cutS [(3, .ptr H.length 0 0), (5, fldB H.length i r), (6, .int .i64 (w : Nat)), (7, .int .i64 (i : Nat)), (8, .int .i64 (k : Nat)), (9, .int .u64 (lo : Int))] (H ++ (.cells [.int .u64 (hi : Int), .int .u64 (lo : Int)] :: J)) (by
      repeat' first
        | refine WpA.region ?_
        | refine WpOps.op _ rfl rfl rfl rfl rfl ?_
        | refine WpOps.nil ?_
      exact ⟨rfl, ⟨rfl, rfl, rfl, rfl, rfl, rfl, trivial⟩, rfl⟩) ?_
    refine WpA.cutS [(3, .ptr H.length 0 0), (5, fldB H.length i r), (6, .int .i64 (w : Nat)), (7, .int .i64 (i : Nat)), (8, .int .i64 (k' : Nat)), (9, .int .u64 (x : Int))] (H ++ (.cells [.int .u64 (hi : Int), .int .u64 (lo : Int)] :: J)) ?_ ?_
    · by_cases h63 : 63 < k
      · have hd2 : decide (((k : Nat) : Int) > 63) = true := decide_eq_true (by omega)
        rw [if_pos h63] at hk' hx
        have hk2 : IntKind.i64.wrap (((k : Nat) : Int) - 64) = ((k' : Nat) : Int) := by rw [wrap64 (by omega) (by omega)]; omega
        subst hx
        repeat' first
          | refine WpA.condT (congrArg AV.bool hd2) ?_
          | refine WpA.seq ?_
          | refine WpA.region ?_
          | refine WpOps.op _ rfl rfl rfl rfl rfl ?_
          | refine WpOps.nil ?_
        exact ⟨rfl, ⟨rfl, rfl, rfl, rfl, congrArg (AV.int .i64) hk2, rfl, trivial⟩, rfl⟩
      · have hd2 : decide (((k : Nat) : Int) > 63) = false := decide_eq_false (by omega)
        rw [if_neg h63] at hk' hx
        subst hx; subst hk'
        repeat' first
          | refine WpA.condF (congrArg AV.bool hd2) ?_
          | refine WpA.seq ?_
          | refine WpA.region ?_
          | refine WpOps.op _ rfl rfl rfl rfl rfl ?_
          | refine WpOps.nil ?_
          | refine WpA.skip ?_
        exact ⟨rfl, ⟨rfl, rfl, rfl, rfl, rfl, rfl, trivial⟩, rfl⟩
    clear hbk hbv hk' hx hx64 hk63 hm hkw
    obtain ⟨bv, hbw⟩ : ∃ bv, IntKind.i64.wrap ((IntKind.u64.wrap ((x : Int).tdiv ((m : Int) + 1))).tmod (1 + 1)) = bv := ⟨_, rfl⟩
    rw [hbw] at htk
    have hcl : ∀ n, n ≤ w → (bitCells ((bitsL ⟨hi, lo⟩ w).take n)).length = n := fun n hn => by rw [bitCells, List.length_map, List.length_take, bitsL_len]; omega
    have hone : ∀ y ∈ [[AV.int .i64 bv]], ∀ a ∈ y, a.one = true := fun y hy a ha => by
      obtain rfl := List.mem_singleton.1 hy
      obtain rfl := List.mem_singleton.1 ha
      rfl
    cases i with
    | zero =>
      repeat' first
        | (refine WpOps.quo _ rfl rfl rfl rfl rfl ?_)
        | (refine WpOps.buildSlice _ rfl rfl rfl rfl rfl rfl rfl rfl rfl rfl rfl ?_)
        | (refine WpOps.p1 rfl rfl rfl (.appOE (m' := H.length) (r' := J.length + 1) (ys := [[.int .i64 _]]) rfl rfl rfl rfl (fun k h => by cases h) rfl rfl rfl rfl (by simp) (by show 1 * 8 ≤ _; omega) (by simp)) ?_)
        | refine WpA.region ?_
        | refine WpOps.op _ rfl rfl rfl rfl rfl ?_
        | (refine WpOps.call rfl rfl rfl rfl rfl (by exact hP _) ?_; rintro _ _ ⟨rfl, rfl⟩)
        | refine WpOps.nil ?_
      refine ⟨(0 + 1, J ++ [.cells [.int .i64 bv]], J.length), ⟨hlt, fun _ => ?_⟩, by show w - (0 + 1) < w - 0; omega, ⟨rfl, rfl, rfl, congrArg (AV.int .i64) (wrap64 (by omega) (by omega)), trivial⟩, ?_⟩
      · show (J ++ [_])[J.length]? = some (.cells (bitCells (List.take (0 + 1) _)))
        rw [htk]
        simp [bitCells]
      · show (H ++ (_ :: J)) ++ [.cells [.int .i64 (IntKind.i64.wrap ((IntKind.u64.wrap ((x : Int).tdiv ((m : Int) + 1))).tmod (1 + 1)))]] = _
        rw [hbw, List.append_assoc]
        rfl
    | succ n =>
      have hJ' := hJ (by omega)
      repeat' first
        | (refine WpOps.quo _ rfl rfl rfl rfl rfl ?_)
        | (refine WpOps.buildSlice _ rfl rfl rfl rfl rfl rfl rfl rfl rfl rfl rfl ?_)
        | (refine WpOps.p1 rfl rfl rfl (.appOV (m' := H.length) (r' := J.length + 1) (ys := [[.int .i64 _]]) rfl rfl rfl rfl (fun k h => by cases h) rfl rfl rfl (app_get rfl hJ') (by show (n + 1) * 1 ≤ _; rw [hcl _ (by omega)]; omega) rfl (by intro y hy a ha; obtain rfl := List.mem_singleton.1 hy; obtain rfl := List.mem_singleton.1 ha; rfl) (by show (n + 1 + 1) * 8 ≤ _; omega) (by simp)) ?_)
        | refine WpA.region ?_
        | refine WpOps.op _ rfl rfl rfl rfl rfl ?_
        | (refine WpOps.call rfl rfl rfl rfl rfl (by exact hP _) ?_; rintro _ _ ⟨rfl, rfl⟩)
        | refine WpOps.nil ?_
      refine ⟨(n + 1 + 1, J.set r .dead ++ [.cells (bitCells ((bitsL ⟨hi, lo⟩ w).take (n + 1)) ++ [.int .i64 bv])], J.length), ⟨hlt, fun _ => ?_⟩, by show w - (n + 1 + 1) < w - (n + 1); omega, ⟨rfl, rfl, rfl, congrArg (AV.int .i64) (wrap64 (by omega) (by omega)), trivial⟩, ?_⟩
      · show (J.set r .dead ++ [_])[J.length]? = some (.cells (bitCells (List.take (n + 1 + 1) _)))
        rw [htk]
        simp
      · rw [set_app]
        show (H ++ (_ :: J.set r .dead)) ++ [.cells (List.take ((n + 1) * 1) (bitCells ((bitsL ⟨hi, lo⟩ w).take (n + 1))) ++ [.int .i64 (IntKind.i64.wrap ((IntKind.u64.wrap ((x : Int).tdiv ((m : Int) + 1))).tmod (1 + 1)))])] = _
        rw [hbw, List.take_of_length_le (by rw [hcl _ (by omega)]; omega), List.append_assoc]
        rfl
  · have hin : i = w := by omega
    subst hin
    have hd : decide (((i : Nat) : Int) < ((i : Nat) : Int)) = false := decide_eq_false (by omega)
    have hJ' := hJ hw2.1
    rw [List.take_of_length_le (by rw [bitsL_len]; exact Nat.le_refl _)] at hJ'
    generalize bitsL ⟨hi, lo⟩ i = bl at *
    cases i with
    | zero => exact absurd hw2.1 (by decide)
    | succ n =>
      repeat' first
        | refine WpA.condF (congrArg AV.bool hd) ?_
        | refine WpA.seq ?_
        | refine WpA.region ?_
        | refine WpOps.op _ rfl rfl rfl rfl rfl ?_
        | refine WpA.exit ?_
        | refine WpOps.nil ?_
        | refine WpA.ret ?_
      exact retK.all (.inr rfl) rfl rfl (Sub.ovR (m' := m0) (q' := r + 1 + q0) (by omega)) ⟨_, r + 1, rfl, hJ', rfl⟩
end Go.Gp.Tryz
