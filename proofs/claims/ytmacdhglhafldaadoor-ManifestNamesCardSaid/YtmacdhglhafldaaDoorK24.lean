/- Part of a proof: GdW7, GdW8, GdW9, GdM1, GdM2 -/
import Derived.Test.YtmacdhglhafldaaDoorK13
import Derived.Test.YtmacdhglhafldaaDoorK22
import Derived.Test.YtmacdhglhafldaaDoorK23
import Derived.Lib.Bytealg

/- The manifest's checks: comparing, searching. -/
namespace Go.Gp.Tryd
open Go.Proofs
set_option linter.unusedVariables false
set_option maxRecDepth 100000
set_option linter.unusedSimpArgs false
set_option maxHeartbeats 4000000

abbrev cmpB (x y : List UInt8) : Int := Go.Lib.compareBytes x y

theorem extern_A (x y : List UInt8) (H : List AObj) : CallsA E 93 [.str x, .str y] H (Is H (.int .i64 (cmpB x y))) := by
  refine ⟨?_⟩
  intro c vs hH ho hr
  obtain ⟨hl, hr⟩ := hr
  match vs, hl with
  | [u, v], _ =>
    have h1 := hr 0 _ u rfl rfl
    have h2 := hr 1 _ v rfl rfl
    cases h1; cases h2
    have e := run_callFunc_extern (P := E.P) (f := 93) (e := Extern.BytealgCompare.compare) Tryd.func93 (by kernel_rfl) (by kernel_rfl) (by kernel_rfl) (by kernel_rfl) #[.string ⟨x.toArray⟩, .string ⟨y.toArray⟩] c.w
    show UponC _ _ ((callFunc 93 #[.string ⟨x.toArray⟩, .string ⟨y.toArray⟩]).run E.P c.w)
    rw [e, Go.Lib.run_compareString]
    refine ⟨c.ι, c.H, .ret (.int .i64 (cmpB x y)), Ext.refl c, ho, ?_, hH, rfl⟩
    exact .int

theorem CompareString_A (x y : List UInt8) (H : List AObj) : CallsA E 79 [.str x, .str y] H (Is H (.int .i64 (cmpB x y))) := by
  refine .enter Tryd.func79 rfl rfl rfl 8 Tryd.ntmps79 (Nat.le_of_ble_eq_true rfl) ?_
  repeat' first
    | refine WpA.seq ?_
    | refine WpA.region ?_
    | refine WpOps.op _ rfl rfl rfl rfl rfl ?_
    | (refine WpOps.call rfl rfl rfl rfl rfl (by exact extern_A _ _ _) ?_; rintro _ _ ⟨rfl, rfl⟩)
    | refine WpOps.nil ?_
    | refine WpA.ret ?_
  exact retK.ok rfl rfl rfl .int

theorem Compare_A (x y : List UInt8) (H : List AObj) : CallsA E 59 [.str x, .str y] H (Is H (.int .i64 (cmpB x y))) := by
  refine .enter Tryd.func59 rfl rfl rfl 8 Tryd.ntmps59 (Nat.le_of_ble_eq_true rfl) ?_
  repeat' first
    | refine WpA.seq ?_
    | refine WpA.region ?_
    | refine WpOps.op _ rfl rfl rfl rfl rfl ?_
    | (refine WpOps.call rfl rfl rfl rfl rfl (by exact CompareString_A _ _ _) ?_; rintro _ _ ⟨rfl, rfl⟩)
    | refine WpOps.nil ?_
    | refine WpA.ret ?_
  exact retK.ok rfl rfl rfl .int

theorem FindCmp_A (f : File) (y : List UInt8) (H : List AObj) : CallsA E 58 [.agg f.row, .str y] H (Is H (.int .i64 (cmpB f.name y))) := by
  refine .enter Tryd.func58 rfl rfl rfl 9 Tryd.ntmps58 (Nat.le_of_ble_eq_true rfl) ?_
  repeat' first
    | refine WpA.seq ?_
    | refine WpA.region ?_
    | refine WpOps.op _ rfl rfl rfl rfl rfl ?_
    | refine WpOps.box _ rfl rfl rfl rfl rfl ?_
    | (refine WpOps.call rfl rfl rfl rfl rfl (by exact Compare_A _ _ _) ?_; rintro _ _ ⟨rfl, rfl⟩)
    | refine WpOps.nil ?_
    | refine WpA.ret ?_
  exact retK.ok rfl rfl rfl .int
end Go.Gp.Tryd

/- The manifest's checks: the search. -/
namespace Go.Gp.Tryd
open Go.Proofs
set_option linter.unusedVariables false
set_option linter.unusedSimpArgs false
set_option maxHeartbeats 4000000

theorem lt_irrefl (x : List UInt8) : lt x x = false := by
  rw [lt_not x x]; simp

theorem lt_trans : ∀ {x y z : List UInt8}, lt x y = true → lt y z = true → lt x z = true
  | [], [], _, h, _ => by cases h
  | [], _ :: _, [], _, h => by cases h
  | [], _ :: _, _ :: _, _, _ => rfl
  | _ :: _, [], _, h, _ => by cases h
  | _ :: _, _ :: _, [], _, h => by cases h
  | a :: x, b :: y, c :: z, h1, h2 => by
    have h1' : (decide (a < b) || (a == b && lt x y)) = true := h1
    have h2' : (decide (b < c) || (b == c && lt y z)) = true := h2
    show (decide (a < c) || (a == c && lt x z)) = true
    simp only [Bool.or_eq_true, decide_eq_true_eq, Bool.and_eq_true, beq_iff_eq, UInt8.lt_iff_toNat_lt] at *
    rcases h1' with h1' | ⟨rfl, h1'⟩
    · rcases h2' with h2' | ⟨rfl, h2'⟩
      · exact .inl (by omega)
      · exact .inl h1'
    · rcases h2' with h2' | ⟨rfl, h2'⟩
      · exact .inl h2'
      · exact .inr ⟨rfl, lt_trans h1' h2'⟩

theorem cmp_neg : ∀ (x y : List UInt8), decide (cmpB x y < 0) = lt x y
  | [], [] => rfl
  | [], _ :: _ => rfl
  | _ :: _, [] => rfl
  | a :: x, b :: y => by
    have ih := cmp_neg x y
    show decide ((if a < b then (-1 : Int) else if b < a then 1 else cmpB x y) < 0) = (decide (a < b) || (a == b && lt x y))
    by_cases h1 : a < b
    · simp [h1]
    · by_cases h2 : b < a
      · have h3 : ¬ a = b := fun e => by subst e; exact h1 h2
        simp [h1, h2, h3]
      · have h3 : a = b := by
          apply UInt8.toNat_inj.1
          rw [UInt8.lt_iff_toNat_lt] at h1 h2
          omega
        subst h3
        simp [h1, ← ih]

theorem cmp_zero : ∀ (x y : List UInt8), (cmpB x y == 0) = (x == y)
  | [], [] => rfl
  | [], _ :: _ => rfl
  | _ :: _, [] => rfl
  | a :: x, b :: y => by
    have ih := cmp_zero x y
    show ((if a < b then (-1 : Int) else if b < a then 1 else cmpB x y) == 0) = (a == b && x == y)
    by_cases h1 : a < b
    · have h3 : ¬ a = b := fun e => by subst e; rw [UInt8.lt_iff_toNat_lt] at h1; omega
      simp [h1, h3]
    · by_cases h2 : b < a
      · have h3 : ¬ a = b := fun e => by subst e; exact h1 h2
        simp [h1, h2, h3]
      · have h3 : a = b := by
          apply UInt8.toNat_inj.1
          rw [UInt8.lt_iff_toNat_lt] at h1 h2
          omega
        subst h3
        simp only [if_neg h1, ih, BEq.rfl, Bool.true_and]

def nm (fs : List File) (k : Nat) : List UInt8 := ((fs[k]?).map File.name).getD []
theorem nm_eq {fs : List File} {k : Nat} (h : k < fs.length) : nm fs k = (fs[k]).name := by
  rw [nm, List.getElem?_eq_getElem h]; rfl

def Sorted (fs : List File) : Prop := ∀ a b, a < b → b < fs.length → lt (nm fs a) (nm fs b) = true

theorem sorted_of {fs : List File} (h : okUpTo fs fs.length = true) : Sorted fs := by
  intro a b hab hb
  have step : ∀ k, k + 1 < fs.length → lt (nm fs k) (nm fs (k + 1)) = true := fun k hk => by
    unfold okUpTo at h
    rw [List.all_eq_true] at h
    have := h (k + 1) (by simpa using hk)
    unfold okAt at this
    rw [List.getElem?_eq_getElem hk] at this
    simp only [List.getElem?_eq_getElem (show k < fs.length by omega), Bool.and_eq_true] at this
    rw [nm_eq hk, nm_eq (by omega)]
    exact this.2
  induction b with
  | zero => omega
  | succ b ih =>
    rcases Nat.lt_or_ge a b with h1 | h1
    · exact lt_trans (ih h1 (by omega)) (step b hb)
    · have : a = b := by omega
      subst this
      exact step a hb

theorem bd2 (n : Nat) (k : IntKind) (a : Int) (b : Bool) : Bd n (.tup [.int k a, .bool b]) := .tup fun e he => by
  simp at he
  rcases he with rfl | rfl
  · exact .int
  · exact .bool

/-- What the search answers. -/
def Found (fs : List File) (y : List UInt8) (p : Int) (b : Bool) : Prop :=
  (b = true → ∃ k : Nat, p = (k : Int) ∧ k < fs.length ∧ nm fs k = y) ∧ (b = false → ∀ k, k < fs.length → nm fs k ≠ y)

theorem mid_eq {i j : Nat} (h : i + j < 4000000000000000000) : IntKind.i64.wrap ((IntKind.u64.wrap (IntKind.i64.wrap ((i : Int) + (j : Int)))).fdiv (2 ^ min 1 64)) = (((i + j) / 2 : Nat) : Int) := by
  rw [wrap64 (x := (i : Int) + j) (by omega) (by omega), wrapu64 (by omega) (by omega)]
  have : ((i : Int) + j).fdiv (2 ^ min 1 64) = ((i + j) / 2 : Nat) := by
    show ((i : Int) + j).fdiv 2 = _
    rw [Int.fdiv_eq_ediv_of_nonneg _ (by omega)]
    omega
  rw [this]
  exact wrap64 (by omega) (by omega)

theorem Search_A (fs : List File) (y : List UInt8) (H : List AObj) (hb : fs.length ≤ 1000000000000000) (hs : Sorted fs) :
    CallsA E 57 [.sl .no 33 (rows fs), .str y, .func 58 []] H (fun x H' => H' = H ∧ ∃ p b, x = .ret (.tup [.int .i64 p, .bool b]) ∧ Found fs y p b) := by
  refine .enter Tryd.func57 rfl rfl rfl 49 Tryd.ntmps57 (Nat.le_of_ble_eq_true rfl) ?_
  repeat' first
    | refine WpA.seq ?_
    | refine WpA.region ?_
    | refine WpOps.op _ rfl rfl rfl rfl rfl ?_
    | refine WpA.block ?_
    | refine WpOps.nil ?_
  refine WpA.loopS (α := Nat × Nat) (fun p => [(0, .sl .no 33 (rows fs)), (1, .str y), (2, .func 58 []), (8, .int .i64 (rows fs).length), (9, .int .i64 p.1), (10, .int .i64 p.2)]) (fun _ => H ++ [])
    (fun p => p.1 ≤ p.2 ∧ p.2 ≤ fs.length ∧ (∀ k, k < p.1 → lt (nm fs k) y = true) ∧ (∀ k, p.2 ≤ k → k < fs.length → lt (nm fs k) y = false)) (fun p => p.2 - p.1) (0, (rows fs).length)
    ⟨Nat.zero_le _, by rw [rows_length]; exact Nat.le_refl _, fun k h => by omega, fun k h1 h2 => by rw [rows_length] at h1; omega⟩ ⟨rfl, rfl, rfl, rfl, rfl, rfl, trivial⟩ rfl ?_
  rintro ⟨i, j⟩ ⟨h1, h2, h3, h4⟩
  simp only at h1 h2 h3 h4
  dsimp only
  repeat' first
    | refine WpA.seq ?_
    | refine WpA.region ?_
    | refine WpOps.op _ rfl rfl rfl rfl rfl ?_
    | refine WpOps.skip rfl rfl rfl ?_
    | refine WpOps.sh _ rfl rfl rfl rfl rfl ?_
    | refine WpOps.gsplit _ rfl rfl rfl (fun h => ?_) (fun h => ?_)
    | refine WpA.block ?_
    | refine WpA.exit ?_
    | refine WpOps.nil ?_
    | refine WpA.ret ?_
    | refine WpA.skip ?_
    | refine WpA.cond _ rfl (fun h => ?_) (fun h => ?_)
  · simp at h
    have hm1 : (i + j) / 2 < fs.length := by omega
    have hmid := mid_eq (i := i) (j := j) (by omega)
    have hz : 0 ≤ IntKind.i64.wrap ((IntKind.u64.wrap (IntKind.i64.wrap ((i : Int) + (j : Int)))).fdiv (2 ^ min 1 64)) := by rw [hmid]; omega
    have hl : (rows fs)[(IntKind.i64.wrap ((IntKind.u64.wrap (IntKind.i64.wrap ((i : Int) + (j : Int)))).fdiv (2 ^ min 1 64))).toNat]? = some (fs[(i + j) / 2]).row := by rw [hmid]; exact rows_get hm1
    have hw1 : IntKind.i64.wrap (IntKind.i64.wrap ((IntKind.u64.wrap (IntKind.i64.wrap ((i : Int) + (j : Int)))).fdiv (2 ^ min 1 64)) + 1) = (((i + j) / 2 + 1 : Nat) : Int) := by
      rw [hmid, wrap64 (by omega) (by omega)]; rfl
    refine WpOps.elem (fs[(i + j) / 2]).row rfl rfl rfl rfl rfl rfl rfl rfl rfl (by exact hz) (by exact hl) ?_
    repeat' first
      | refine WpA.region ?_
      | refine WpOps.op _ rfl rfl rfl rfl rfl ?_
      | (refine WpOps.call rfl rfl rfl rfl rfl (by exact FindCmp_A _ _ _) ?_; rintro _ _ ⟨rfl, rfl⟩)
      | refine WpOps.nil ?_
      | refine WpA.cond _ rfl (fun h => ?_) (fun h => ?_)
    · refine ⟨((i + j) / 2 + 1, j), ⟨by simp only; omega, h2, fun k hk => ?_, h4⟩, by simp only; omega, ⟨rfl, rfl, rfl, rfl, congrArg (AV.int .i64) hw1, rfl, trivial⟩, rfl⟩
      rw [cmp_neg, ← nm_eq hm1] at h
      rcases Nat.lt_or_ge k ((i + j) / 2) with hk1 | hk1
      · exact lt_trans (hs _ _ hk1 hm1) h
      · have : k = (i + j) / 2 := by simp only at hk; omega
        rw [this]; exact h
    · refine ⟨(i, (i + j) / 2), ⟨by simp only; omega, by simp only; omega, h3, fun k hk1 hk2 => ?_⟩, by simp only; omega, ⟨rfl, rfl, rfl, rfl, rfl, congrArg (AV.int .i64) hmid, trivial⟩, rfl⟩
      rw [cmp_neg, ← nm_eq hm1] at h
      simp only at hk1
      rcases Nat.lt_or_ge ((i + j) / 2) k with hk3 | hk3
      · cases hq : lt (nm fs k) y with
        | false => rfl
        | true => rw [lt_trans (hs _ _ hk3 hk2) hq] at h; cases h
      · have : k = (i + j) / 2 := by omega
        rw [this]; exact h
  all_goals (try (cases h; done))
  · rename_i q0 q1 
    simp at q0
    have hij : i = j := by omega
    subst hij
    simp [rows_length] at q1
    refine WpOps.elem (fs[i]).row rfl rfl rfl rfl rfl rfl rfl rfl rfl (Int.natCast_nonneg _) (rows_get q1) ?_
    clear h
    repeat' first
      | refine WpOps.op _ rfl rfl rfl rfl rfl ?_
      | (refine WpOps.call rfl rfl rfl rfl rfl (by exact FindCmp_A _ _ _) ?_; rintro _ _ ⟨rfl, rfl⟩)
      | refine WpOps.nil ?_
      | refine WpA.ret ?_
    refine retK.ok' (.inr rfl) rfl rfl (by exact bd2 _ _ _ _) ⟨rfl, _, _, rfl, ?_, ?_⟩
    · intro hq
      have hq' : (cmpB (fs[i]).name y == 0) = true := hq
      rw [cmp_zero, ← nm_eq q1, beq_iff_eq] at hq'
      exact ⟨i, rfl, q1, hq'⟩
    · intro hq k hk
      have hq' : (cmpB (fs[i]).name y == 0) = false := hq
      rw [cmp_zero, ← nm_eq q1] at hq'
      rcases Nat.lt_trichotomy k i with h5 | h5 | h5
      · intro e
        have := h3 k h5
        rw [e, lt_irrefl] at this
        cases this
      · rw [h5]; simpa using hq'
      · intro e
        have h6 := hs i k h5 hk
        rw [e] at h6
        rw [h4 i (Nat.le_refl _) q1] at h6
        cases h6
  · rename_i q0
    simp at q0
    have hij : i = j := by omega
    subst hij
    simp [rows_length] at h
    refine retK.ok' (.inr rfl) rfl rfl (by exact bd2 _ _ _ _) ⟨rfl, _, _, rfl, ?_, ?_⟩
    · intro hq; cases hq
    · intro _ k hk e
      have := h3 k (by omega)
      rw [e, lt_irrefl] at this
      cases this
end Go.Gp.Tryd

/- The manifest's checks: Find, both; the law's own function. -/
namespace Go.Gp.Tryd
open Go.Proofs
set_option linter.unusedVariables false
set_option linter.unusedSimpArgs false
set_option maxHeartbeats 4000000

theorem in_A (m : Man) (y : List UInt8) (H : List AObj) (hb : m.fs.length ≤ 1000000000000000) :
    CallsA E 43 [m.av .no, .str y] H (fun x H' => H' = H ∧ ∃ p, x = .ret (.int .i64 p) ∧ ((∃ k : Nat, p = (k : Int) ∧ k < m.fs.length ∧ nm m.fs k = y) ∨ (p = -1 ∧ ∀ k, k < m.fs.length → nm m.fs k ≠ y))) := by
  refine .enter Tryd.func43 rfl rfl rfl 22 Tryd.ntmps43 (Nat.le_of_ble_eq_true rfl) ?_
  repeat' first
    | refine WpA.seq ?_
    | refine WpA.region ?_
    | refine WpOps.op _ rfl rfl rfl rfl rfl ?_
    | refine WpOps.box _ rfl rfl rfl rfl rfl ?_
    | refine WpA.block ?_
    | refine WpOps.nil ?_
  refine WpA.loopS (α := Nat) (fun i => [(2, .ptr H.length 0 0), (1, .str y), (5, .int .i64 i)]) (fun _ => H ++ [AObj.cells (m.cells .no)]) (fun i => i ≤ m.fs.length ∧ ∀ k, k < i → nm m.fs k ≠ y) (fun i => m.fs.length - i) 0 ⟨Nat.zero_le _, fun k h => by omega⟩ ⟨rfl, rfl, rfl, trivial⟩ rfl ?_
  rintro i ⟨hi, hu⟩
  repeat' first
    | refine WpA.seq ?_
    | refine WpA.region ?_
    | refine WpOps.op _ rfl rfl rfl rfl rfl ?_
    | refine WpA.block ?_
    | refine WpA.exit ?_
    | refine WpOps.nil ?_
    | refine WpA.ret ?_
    | refine WpA.skip ?_
    | refine WpA.cond _ rfl (fun h => ?_) (fun h => ?_)
  · simp [rows_length] at h
    have hlt : i < m.fs.length := h
    clear h
    have hwi : IntKind.i64.wrap ((i : Int) + 1) = ((i + 1 : Nat) : Int) := wrap64 (by omega) (by omega)
    refine WpOps.elem (m.fs[i]).row rfl rfl rfl rfl rfl rfl rfl rfl rfl (Int.natCast_nonneg _) (rows_get hlt) ?_
    repeat' first
      | refine WpA.seq ?_
      | refine WpA.region ?_
      | refine WpOps.op _ rfl rfl rfl rfl rfl ?_
      | refine WpOps.nil ?_
      | refine WpA.ret ?_
      | refine WpA.skip ?_
      | refine WpA.cond _ rfl (fun h => ?_) (fun h => ?_)
    · refine retK.ok' (.inr rfl) rfl rfl .int ⟨rfl, _, rfl, .inl ⟨i, rfl, hlt, ?_⟩⟩
      rw [nm_eq hlt]
      simpa using h
    · refine ⟨i + 1, ⟨hlt, fun k hk => ?_⟩, by omega, ⟨rfl, rfl, congrArg (AV.int .i64) hwi, trivial⟩, rfl⟩
      rcases Nat.lt_or_ge k i with h1 | h1
      · exact hu k h1
      · have : k = i := by omega
        subst this
        rw [nm_eq hlt]
        simpa using h
  · simp [rows_length] at h
    exact retK.ok' (.inr rfl) rfl rfl .int ⟨rfl, _, rfl, .inr ⟨rfl, fun k hk => hu k (by omega)⟩⟩

def zeroHash : List AV := List.replicate 32 (.int .u8 0)
def seek (m : Man) (y : List UInt8) : Option File := m.fs.find? (·.name == y)
def findByte (m : Man) (y : List UInt8) : Nat → Int := if check m = 0 then match seek m y with | some f => fun i => (f.h i).toNat | none => fun _ => 0 else fun _ => 0
def findHash (m : Man) (y : List UInt8) : List AV := (List.range 32).map fun i => .int .u8 (findByte m y i)
def findCode (m : Man) (y : List UInt8) : Int := if check m = 0 then match seek m y with | some _ => 0 | none => 6 else check m

theorem check_ok {m : Man} (h : check m = 0) : Sorted m.fs := by
  refine sorted_of ?_
  unfold check at h
  split at h
  · cases h
  · split at h
    · rename_i h1
      rw [manOk, Bool.and_eq_true] at h1
      exact h1.2
    · cases h

theorem seek_some {m : Man} {y : List UInt8} {k : Nat} (hs : Sorted m.fs) (hk : k < m.fs.length) (h : nm m.fs k = y) : seek m y = some m.fs[k] := by
  unfold seek
  rw [List.find?_eq_some_iff_getElem]
  refine ⟨by rw [← nm_eq hk, h]; simp, k, hk, rfl, fun j hj => ?_⟩
  rw [← nm_eq (by omega)]
  have := hs j k hj hk
  rw [h] at this
  simp only [Bool.not_eq_true', beq_eq_false_iff_ne, ne_eq]
  intro e
  rw [e, lt_irrefl] at this
  cases this

theorem seek_none {m : Man} {y : List UInt8} (h : ∀ k, k < m.fs.length → nm m.fs k ≠ y) : seek m y = none := by
  unfold seek
  rw [List.find?_eq_none]
  intro f hf
  obtain ⟨k, hk⟩ := List.getElem?_of_mem hf
  obtain ⟨hlt, rfl⟩ := List.getElem?_eq_some_iff.1 hk
  have := h k hlt
  rw [nm_eq hlt] at this
  simpa using this

theorem bdFind (n : Nat) (f : File) (a : Int) : Bd n (.tup [.agg f.hash, .int .i64 a]) := .tup fun e he => by
  simp only [List.mem_cons, List.not_mem_nil, or_false] at he
  rcases he with rfl | rfl
  · refine .agg fun e he => ?_
    obtain ⟨v, rfl⟩ := hash_int f e he
    exact .int
  · exact .int
theorem bdZero (n : Nat) (a : Int) : Bd n (.tup [.agg zeroHash, .int .i64 a]) := .tup fun e he => by
  simp only [List.mem_cons, List.not_mem_nil, or_false] at he
  rcases he with rfl | rfl
  · refine .agg fun e he => ?_
    obtain ⟨_, rfl⟩ := List.mem_replicate.1 he
    exact .int
  · exact .int

def findAV (m : Man) (y : List UInt8) : AV := .tup [.agg (findHash m y), .int .i64 (findCode m y)]

theorem Find_A (m : Man) (y : List UInt8) (H : List AObj) (hb : m.fs.length ≤ 1000000000000000) : CallsA E 27 [m.av .no, .str y] H (Is H (findAV m y)) := by
  refine .enter Tryd.func27 rfl rfl rfl 31 Tryd.ntmps27 (Nat.le_of_ble_eq_true rfl) ?_
  repeat' first
    | refine WpA.seq ?_
    | refine WpA.region ?_
    | refine WpOps.op _ rfl rfl rfl rfl rfl ?_
    | refine WpOps.box _ rfl rfl rfl rfl rfl ?_
    | refine WpOps.alloc _ rfl rfl rfl rfl rfl rfl ?_
    | refine WpOps.store rfl rfl rfl rfl rfl rfl rfl rfl rfl rfl ?_
    | refine WpOps.build _ rfl rfl rfl rfl rfl ?_
    | (refine WpOps.call rfl rfl rfl rfl rfl (by exact Check_A _ _ hb) ?_; rintro _ _ ⟨rfl, rfl⟩)
    | refine WpOps.nil ?_
    | refine WpA.ret ?_
    | refine WpA.skip ?_
    | refine WpA.cond _ rfl (fun h => ?_) (fun h => ?_)
  · have hc : check m ≠ 0 := by simpa [bne] using h
    have e : findAV m y = .tup [.agg zeroHash, .int .i64 (check m)] := by rw [findAV, findHash, findCode, findByte, if_neg hc, if_neg hc]; rfl
    rw [e]
    exact retK.ok rfl rfl rfl (bdZero _ _)
  · have hc : check m = 0 := by simpa [bne] using h
    have hs := check_ok hc
    refine WpOps.call rfl rfl rfl rfl rfl (by exact Search_A _ _ _ hb hs) ?_
    rintro _ _ ⟨rfl, p, b, rfl, hf1, hf2⟩
    dsimp only
    repeat' first
      | refine WpA.seq ?_
      | refine WpA.region ?_
      | refine WpOps.op _ rfl rfl rfl rfl rfl ?_
      | refine WpOps.store rfl rfl rfl rfl rfl rfl rfl rfl rfl rfl ?_
      | refine WpOps.build _ rfl rfl rfl rfl rfl ?_
      | refine WpOps.nil ?_
      | refine WpA.ret ?_
      | refine WpA.skip ?_
      | refine WpA.cond _ rfl (fun h => ?_) (fun h => ?_)
    · rw [Bool.not_eq_true'] at h
      subst h
      have e : findAV m y = .tup [.agg zeroHash, .int .i64 6] := by rw [findAV, findHash, findCode, findByte, if_pos hc, if_pos hc, seek_none (hf2 rfl)]; rfl
      rw [e]
      exact retK.ok rfl rfl rfl (bdZero _ _)
    · rw [Bool.not_eq_false'] at h
      subst h
      obtain ⟨k, rfl, hk1, hk2⟩ := hf1 rfl
      have e : findAV m y = .tup [.agg (m.fs[k]).hash, .int .i64 0] := by rw [findAV, findHash, findCode, findByte, if_pos hc, if_pos hc, seek_some hs hk1 hk2]; rfl
      rw [e]
      refine WpOps.elem (m.fs[k]).row rfl rfl rfl rfl rfl rfl rfl rfl rfl (Int.natCast_nonneg _) (rows_get hk1) ?_
      repeat' first
        | refine WpOps.op _ rfl rfl rfl rfl rfl ?_
        | refine WpOps.store rfl rfl rfl rfl rfl rfl rfl rfl rfl rfl ?_
        | refine WpOps.nil ?_
        | refine WpA.ret ?_
      exact retK.ok rfl rfl rfl (bdFind _ _ _)

end Go.Gp.Tryd

/- The manifest: Encode. -/
namespace Go.Gp.Tryd
open Go.Proofs
set_option linter.unusedVariables false
set_option linter.unusedSimpArgs false
set_option maxHeartbeats 4000000
set_option maxRecDepth 100000

def orI (a b : Int) : Int := if a = 0 then b else a

theorem Or_A (a b : Int) (H : List AObj) : CallsA E 51 [.sl .full 1 [[.int .i64 a], [.int .i64 b]]] H (Is H (.int .i64 (orI a b))) := by
  refine .enter Tryd.func51 rfl rfl rfl 18 Tryd.ntmps51 (Nat.le_of_ble_eq_true rfl) ?_
  repeat' first
    | refine WpA.seq ?_
    | refine WpA.region ?_
    | refine WpOps.op _ rfl rfl rfl rfl rfl ?_
    | refine WpA.block ?_
    | refine WpOps.nil ?_
  refine WpA.loopFor 2 (fun i => [(3, .int .i64 0), (6, .sl .full 1 [[.int .i64 a], [.int .i64 b]]), (7, .int .i64 2), (8, .int .i64 (i : Nat))]) (fun _ => H ++ []) (fun i => (1 ≤ i → a = 0) ∧ (2 ≤ i → b = 0)) ⟨by omega, by omega⟩ ⟨rfl, rfl, rfl, rfl, trivial⟩ rfl (fun i hi hok => ?_) (fun hok => ?_)
  · rcases i with _ | _ | i
    · repeat' first
        | refine WpA.seq ?_
        | refine WpA.region ?_
        | refine WpOps.op _ rfl rfl rfl rfl rfl ?_
        | refine WpOps.elem [.int .i64 a] rfl rfl rfl rfl rfl rfl rfl rfl rfl (Int.natCast_nonneg _) rfl ?_
        | refine WpA.block ?_
        | refine WpOps.nil ?_
        | refine WpA.ret ?_
        | refine WpA.skip ?_
        | refine WpA.condT rfl ?_
        | refine WpA.cond _ rfl (fun h => ?_) (fun h => ?_)
      · refine retK.ok rfl rfl (congrArg (AV.int .i64) ?_) .int
        rw [orI, if_neg]
        simpa using h
      · have ha : a = 0 := by simpa using h
        exact ⟨⟨fun _ => ha, by omega⟩, ⟨rfl, rfl, rfl, rfl, trivial⟩, rfl⟩
    · have ha := hok.1 (Nat.le_refl _)
      repeat' first
        | refine WpA.seq ?_
        | refine WpA.region ?_
        | refine WpOps.op _ rfl rfl rfl rfl rfl ?_
        | refine WpOps.elem [.int .i64 b] rfl rfl rfl rfl rfl rfl rfl rfl rfl (Int.natCast_nonneg _) rfl ?_
        | refine WpA.block ?_
        | refine WpOps.nil ?_
        | refine WpA.ret ?_
        | refine WpA.skip ?_
        | refine WpA.condT rfl ?_
        | refine WpA.cond _ rfl (fun h => ?_) (fun h => ?_)
      · refine retK.ok rfl rfl (congrArg (AV.int .i64) ?_) .int
        rw [orI, if_pos ha]
      · have hb : b = 0 := by simpa using h
        exact ⟨⟨fun _ => ha, fun _ => hb⟩, ⟨rfl, rfl, rfl, rfl, trivial⟩, rfl⟩
    · omega
  · repeat' first
      | refine WpA.seq ?_
      | refine WpA.region ?_
      | refine WpOps.op _ rfl rfl rfl rfl rfl ?_
      | refine WpA.exit ?_
      | refine WpOps.nil ?_
      | refine WpA.ret ?_
      | refine WpA.condF rfl ?_
    refine retK.ok rfl rfl (congrArg (AV.int .i64) ?_) .int
    rw [orI, if_pos (hok.1 (by decide)), hok.2 (by decide)]

def numO (t : UInt8) (x : Nat) : Oct := .mk t (be x) []
def strO (t : UInt8) (s : List UInt8) : Oct := .mk t s []
def File.hs (f : File) : List UInt8 := (List.range 32).map f.h
def fileO (f : File) : Oct := .mk 129 [] [strO 1 f.name, strO 2 f.hs]
def manHead (m : Man) : List Oct := [numO 1 m.v.toNat, numO 2 m.a.toNat, numO 3 m.b.toNat]
def manO (m : Man) : Oct := .mk 128 [] (manHead m ++ m.fs.map fileO)

theorem be_len {x k : Nat} (h : x < 2 ^ k) : (be x).length ≤ (k + 7) / 8 := by
  have : ∀ (n : Nat), (beN x n).length = n := by
    intro n
    induction n with
    | zero => rfl
    | succ n ih => simp [beN, ih]
  rw [be, this]
  have := bitLen_lt h
  omega
theorem leaf_size (t : UInt8) (bs : List UInt8) : (Oct.mk t bs []).size = 1 + wide bs.length + bs.length := by
  rw [size_mk]; simp [Oct.sizeL]
theorem numO_size (t : UInt8) {x : Nat} (h : x < 18446744073709551616) : (numO t x).size ≤ 18 := by
  have := be_len (k := 64) h
  have hw := wide_le (be x).length (by omega)
  rw [numO, leaf_size]; omega
theorem fileO_size (f : File) (h : f.name.length ≤ 1000000) : (fileO f).size ≤ 1000100 := by
  have h2 : f.hs.length = 32 := by simp [File.hs]
  have w1 := wide_le f.name.length (by omega)
  have w2 := wide_le f.hs.length (by omega)
  have e : Oct.sizeL [strO 1 f.name, strO 2 f.hs] = (1 + wide f.name.length + f.name.length) + (1 + wide f.hs.length + f.hs.length) := by
    rw [sizeL_cons, sizeL_cons, strO, strO, leaf_size, leaf_size]; simp [Oct.sizeL]
  have w3 := wide_le (0 + Oct.sizeL [strO 1 f.name, strO 2 f.hs]) (by rw [e]; omega)
  rw [fileO, size_mk, List.length_nil]
  omega
theorem files_size : ∀ (fs : List File), (∀ f ∈ fs, f.name.length ≤ 1000000) → Oct.sizeL (fs.map fileO) ≤ 1000100 * fs.length
  | [], _ => by simp [Oct.sizeL]
  | f :: fs, h => by
    rw [List.map_cons, sizeL_cons, List.length_cons]
    have := fileO_size f (h f List.mem_cons_self)
    have := files_size fs (fun g hg => h g (List.mem_cons_of_mem _ hg))
    omega

theorem okUpTo_all {fs : List File} (h : okUpTo fs fs.length = true) : ∀ f ∈ fs, name f.name = true := fun f hf => by
  obtain ⟨i, hi, rfl⟩ := List.mem_iff_getElem.1 hf
  unfold okUpTo at h
  rw [List.all_eq_true] at h
  have := h i (List.mem_range.2 hi)
  unfold okAt at this
  rw [List.getElem?_eq_getElem hi] at this
  simp only [Bool.and_eq_true] at this
  exact this.1

theorem check_good {m : Man} (h : check m = 0) : m.fs.length ≤ 200 ∧ 0 ≤ m.a ∧ m.a ≤ 1099511627776 ∧ 0 ≤ m.b ∧ m.b ≤ 1099511627776 ∧ ∀ f ∈ m.fs, f.name.length ≤ 40 := by
  unfold check at h
  by_cases h1 : 200 < m.fs.length
  · rw [if_pos h1] at h; cases h
  · rw [if_neg h1] at h
    by_cases h2 : manOk m = true
    · have h3 := h2
      simp only [manOk, win, isTime, Bool.and_eq_true, decide_eq_true_eq] at h3
      refine ⟨by omega, h3.1.1.1.1, h3.1.1.1.2, h3.1.1.2.1, h3.1.1.2.2, fun f hf => ?_⟩
      have := okUpTo_all h3.2 f hf
      simp only [name, Bool.and_eq_true, decide_eq_true_eq] at this
      exact this.1.1.1.2
    · rw [if_neg h2] at h; cases h

theorem manO_size {m : Man} (h : check m = 0) (hv : m.v.toNat < 18446744073709551616) : (manO m).size ≤ 1000000000 := by
  obtain ⟨g1, g2, g3, g4, g5, g6⟩ := check_good h
  have s1 := numO_size 1 hv
  have s2 := numO_size 2 (x := m.a.toNat) (by omega)
  have s3 := numO_size 3 (x := m.b.toNat) (by omega)
  have s4 := files_size m.fs (fun f hf => Nat.le_trans (g6 f hf) (by decide))
  have e : Oct.sizeL (manHead m ++ m.fs.map fileO) ≤ 54 + 1000100 * m.fs.length := by
    rw [sizeL_append, manHead, sizeL_cons, sizeL_cons, sizeL_cons]
    simp only [Oct.sizeL]
    omega
  have w := wide_le (0 + Oct.sizeL (manHead m ++ m.fs.map fileO)) (by omega)
  rw [manO, size_mk, List.length_nil]
  omega

/-- What Encode gives. -/
def manEnc (m : Man) : List UInt8 × Int := if check m ≠ 0 then ([], check m) else if checkP (manO m) = 0 then ((manO m).enc, 0) else ([], (checkP (manO m) : Nat))

theorem octA_leaf (t : UInt8) (bs : List UInt8) : octA t bs [] = (Oct.mk t bs []).cells := by
  show _ = octA t bs (Oct.cellsL [])
  simp only [Oct.cellsL]

theorem manEncode_A (m : Man) (H : List AObj) (hb : m.fs.length ≤ 1000000000000000) (hv0 : 0 ≤ m.v) (hv1 : m.v < 18446744073709551616) :
    CallsA E 21 [m.av .no] H (Is H (.tup [.sl .no 1 ((manEnc m).1.map byteRow), .int .i64 (manEnc m).2])) := by
  have bd : ∀ n (bs : List UInt8) (e : Int), Bd n (.tup [.sl .no 1 (bs.map byteRow), .int .i64 e]) := fun n bs e => .tup fun x hx => by
    simp only [List.mem_cons, List.not_mem_nil, or_false] at hx
    rcases hx with rfl | rfl
    · exact bd_slB _
    · exact .int
  refine .enter Tryd.func21 rfl rfl rfl 52 Tryd.ntmps21 (Nat.le_of_ble_eq_true rfl) ?_
  have hv2 : (m.v.toNat : Int) = m.v := Int.toNat_of_nonneg hv0
  by_cases hc : check m = 0
  · obtain ⟨g1, g2, g3, g4, g5, g6⟩ := check_good hc
    have N1 : ∀ H, CallsA E 45 [.int .u8 1, .int .u64 m.v] H (Is H (.agg (numO 1 m.v.toNat).cells)) := fun H => by
      have := Num_A 1 m.v.toNat H (by omega)
      rw [hv2] at this
      rw [numO, ← octA_leaf]; exact this
    have N2 : ∀ (t : UInt8) (x : Int) H, 0 ≤ x → x ≤ 1099511627776 → CallsA E 45 [u8 t, .int .u64 (IntKind.u64.wrap x)] H (Is H (.agg (numO t x.toNat).cells)) := fun t x H h0 h1 => by
      have := Num_A t x.toNat H (by omega)
      rw [wrapu64 h0 (by omega), numO, ← octA_leaf]
      rw [Int.toNat_of_nonneg h0] at this
      exact this
    repeat' first
      | refine WpA.seq ?_
      | refine WpA.region ?_
      | refine WpOps.op _ rfl rfl rfl rfl rfl ?_
      | refine WpOps.box _ rfl rfl rfl rfl rfl ?_
      | (refine WpOps.call rfl rfl rfl rfl rfl (by exact Check_A m _ hb) ?_; rintro _ _ ⟨rfl, rfl⟩)
      | refine LexA.buildSlice _ rfl rfl rfl rfl rfl rfl rfl rfl rfl rfl rfl ?_
      | refine WpA.block ?_
      | refine WpOps.nil ?_
      | refine WpA.ret ?_
      | refine WpA.skip ?_
      | refine WpA.cond _ rfl (fun h => ?_) (fun h => ?_)
      | refine WpA.draw (by kernel_rfl) ?_
      | refine LexA.op _ rfl rfl rfl rfl rfl ?_
      | refine LexA.call rfl rfl rfl rfl rfl (by exact N1 _) ?_
      | refine LexA.call rfl rfl rfl rfl rfl (by exact N2 2 m.a _ g2 g3) ?_
      | refine LexA.call rfl rfl rfl rfl rfl (by exact N2 3 m.b _ g4 g5) ?_
      | refine LexA.nil ?_
    · exfalso
      simp at h
      exact h hc
    · clear N1 N2
      have hN : (rows m.fs).length = m.fs.length := rows_length _
      have hsz := manO_size hc (by omega)
      have S1 : ∀ (t : UInt8) (s : List UInt8) H, s.length ≤ 140737488355328 → CallsA E 47 [u8 t, .str s] H (Is H (.agg (strO t s).cells)) := fun t s H hl => by
        rw [strO, ← octA_leaf]; exact Str_A t s H hl
      have Q1 : ∀ (f : File) H, f.name.length ≤ 40 → CallsA E 46 [.int .u8 129, .sl .full 3 [(strO 1 f.name).cells, (strO 2 f.hs).cells]] H (Is H (.agg (fileO f).cells)) := fun f H hf => by
        have := Seq_A 129 [strO 1 f.name, strO 2 f.hs] H (by have := fileO_size f (by omega); rw [fileO] at this; omega)
        refine CallsA.subL (vs := [u8 129, .sl .no 3 (Oct.cellsL [strO 1 f.name, strO 2 f.hs])]) ⟨Sub.refl _, ?_, trivial⟩ this
        rw [cellsL_map]; exact Sub.untag
      have h0 : Oct.cellsL (manHead m ++ (m.fs.take 0).map fileO) = [(numO 1 m.v.toNat).cells, (numO 2 m.a.toNat).cells, (numO 3 m.b.toNat).cells] := by rw [cellsL_map]; rfl
      refine WpA.adoptN 5 rfl ?_
      refine WpA.loopG m.fs.length (fun i => [(1, .ptr H.length 0 0), (5, .sl (.row H.length 1) 3 (Oct.cellsL (manHead m ++ (m.fs.take i).map fileO))), (28, .sl .no 33 (rows m.fs)), (29, .int .i64 (m.fs.length : Nat)), (30, .int .i64 (i : Nat))])
        (fun i => H ++ [.cells (m.cells .no), .tail (Oct.cellsL (manHead m ++ (m.fs.take i).map fileO)).length 3]) (fun _ => True) trivial ⟨rfl, ?_, rfl, ?_, rfl, trivial⟩ ?_ (fun _ _ => by simp) (fun _ _ _ => ?_) (fun i hi _ => ?_) (fun i hi _ => ?_) (fun _ => ?_) (fun _ => ⟨rfl, rfl, rfl, rfl, rfl, trivial⟩)
      · rw [h0]; rfl
      · show AV.int .i64 ((rows m.fs).length : Nat) = _
        rw [hN]
      · rw [h0]; rfl
      · refine TrOk.app fun j o hj => ?_
        rcases j with _ | _ | j
        · exact .inl hj
        · injection hj with hj; subst hj; exact .inr (obd_tail)
        · cases hj
      · exact ⟨.ptr (by simp), .sl (fun _ _ e => by cases e; simp) (Oct.bdL _ _), rows_bd _ _, .int, .int, trivial⟩
      · have hi0 := rows_get hi
        have hf6 := g6 _ (List.getElem_mem hi)
        have hl1 : m.fs[i].name.length ≤ 140737488355328 := by omega
        have hl2 : m.fs[i].hs.length ≤ 140737488355328 := by simp [File.hs]
        repeat' first
          | refine WpA.drawI [H.length + 2] [0, 0, 4, 0, 0, 0, 4, 0, 0, 0, 0, 3, 0] (by kernel_rfl) (by kernel_rfl) ?_
          | refine WpA.seq ?_
          | refine WpA.region ?_
          | refine WpOps.op _ rfl rfl rfl rfl rfl ?_
          | refine WpOps.alloc _ rfl rfl rfl rfl rfl rfl ?_
          | refine WpOps.store rfl rfl rfl rfl rfl rfl rfl rfl rfl rfl ?_
          | refine WpOps.elem (m.fs[i]).row rfl rfl rfl rfl rfl rfl rfl rfl rfl (Int.natCast_nonneg i) hi0 ?_
          | (refine LexH.p0 rfl rfl rfl rfl (fun H0 => .sliceArr rfl rfl rfl) ?_)
          | (refine LexH.osStr4 (m.fs[i]).hs rfl rfl rfl rfl rfl rfl rfl rfl rfl (by simp) rfl rfl rfl ?_)
          | refine WpA.block ?_
          | refine WpA.exit ?_
          | refine WpOps.nil ?_
          | refine WpA.skip ?_
          | refine WpA.cond _ rfl (fun h => ?_) (fun h => ?_)
          | refine LexH.op0 _ rfl rfl rfl rfl rfl (fun _ => rfl) ?_
          | refine LexH.load4 _ rfl rfl rfl rfl rfl rfl (by simp) rfl rfl rfl rfl ?_
          | refine LexH.buildSlice _ rfl rfl rfl rfl rfl rfl rfl rfl rfl rfl rfl rfl ?_
          | refine LexH.call0 rfl rfl rfl rfl rfl rfl (fun _ => by exact S1 1 _ _ hl1) ?_
          | refine LexH.call0 rfl rfl rfl rfl rfl rfl (fun _ => by exact S1 2 _ _ hl2) ?_
          | refine LexH.call0 rfl rfl rfl rfl rfl rfl (fun _ => by exact Q1 m.fs[i] _ hf6) ?_
        · refine LexH.appR3 rfl rfl rfl rfl rfl rfl rfl rfl (fun k h => by cases h) rfl rfl rfl rfl rfl rfl ?_ ?_ (by exact Like.one fun _ h => h) ?_
          · intro y hy a ha
            have hy' := List.mem_singleton.1 hy
            subst hy'
            have e : [AV.int .u8 129, .sl .no 1 [], .sl .no 3 (Oct.cellsL [strO 1 m.fs[i].name, strO 2 m.fs[i].hs])] = (fileO m.fs[i]).cells := rfl
            revert a
            show ∀ a ∈ (fileO m.fs[i]).cells, a.one = true
            intro a ha
            simp only [Oct.cells, octA, List.mem_cons, List.not_mem_nil, or_false] at ha
            rcases ha with rfl | rfl | rfl <;> rfl
          · show ((Oct.cellsL _).length + 1) * 56 ≤ _
            rw [cellsL_length, List.length_append, List.length_map, List.length_take]
            show (3 + min i m.fs.length + 1) * 56 ≤ _
            omega
          · have hs : Oct.cellsL (manHead m ++ (m.fs.take i).map fileO) ++ [(fileO m.fs[i]).cells] = Oct.cellsL (manHead m ++ (m.fs.take (i + 1)).map fileO) := by
              rw [List.take_succ_eq_append_getElem hi, cellsL_map, cellsL_map, List.map_append, List.map_append, List.map_append, List.map_append, List.append_assoc]; rfl
            repeat' first
              | refine WpA.region ?_
              | refine WpOps.op _ rfl rfl rfl rfl rfl ?_
              | refine WpOps.nil ?_
              | refine LexH.op0 _ rfl rfl rfl rfl rfl (fun _ => rfl) ?_
              | refine LexH.nil ?_
            refine ⟨trivial, ⟨rfl, congrArg (AV.sl _ 3) hs, rfl, rfl, congrArg (AV.int .i64) (wrap64 (by omega) (by omega)), trivial⟩, [.cells m.fs[i].row], ?_⟩
            show H ++ [.cells (m.cells .no), .tail (Oct.cellsL (manHead m ++ (m.fs.take i).map fileO) ++ [(fileO m.fs[i]).cells]).length 3, .cells m.fs[i].row] = _
            rw [hs]
            exact grow rfl
        · simp at h
          omega
      · have hE := fun H => octEncode_A (manO m) H (by omega)
        have hQ : ∀ H (tg : Tag), CallsA E 46 [.int .u8 128, .sl tg 3 (Oct.cellsL (manHead m ++ (m.fs.take m.fs.length).map fileO))] H (Is H (.agg (manO m).cells)) := fun H tg => by
          have := Seq_A 128 (manHead m ++ m.fs.map fileO) H (by rw [manO] at hsz; omega)
          refine CallsA.subL (vs := [u8 128, .sl .no 3 (Oct.cellsL (manHead m ++ m.fs.map fileO))]) ⟨Sub.refl _, ?_, trivial⟩ this
          rw [List.take_length]; exact Sub.untag
        repeat' first
          | refine WpA.seq ?_
          | refine WpA.region ?_
          | refine WpOps.op _ rfl rfl rfl rfl rfl ?_
          | (refine WpOps.call rfl rfl rfl rfl rfl (by exact hQ _ _) ?_; rintro _ _ ⟨rfl, rfl⟩)
          | (refine WpOps.call rfl rfl rfl rfl rfl (by exact hE _) ?_; rintro _ _ ⟨rfl, rfl⟩)
          | refine WpA.block ?_
          | refine WpA.exit ?_
          | refine WpOps.nil ?_
          | refine WpA.ret ?_
          | refine WpA.skip ?_
          | refine WpA.cond _ rfl (fun h => ?_) (fun h => ?_)
        · simp at h
        · rw [manEnc, if_neg (by simpa using hc)]
          by_cases hk : checkP (manO m) = 0
          · rw [if_pos hk, if_pos hk, hk]
            exact retK.ok rfl rfl rfl (bd _ _ _)
          · rw [if_neg hk, if_neg hk]
            exact retK.ok rfl rfl rfl (bd _ [] _)
  · have he : manEnc m = ([], check m) := by rw [manEnc, if_pos hc]
    rw [he]
    repeat' first
      | refine WpA.seq ?_
      | refine WpA.region ?_
      | refine WpOps.op _ rfl rfl rfl rfl rfl ?_
      | refine WpOps.box _ rfl rfl rfl rfl rfl ?_
      | (refine WpOps.call rfl rfl rfl rfl rfl (by exact Check_A m _ hb) ?_; rintro _ _ ⟨rfl, rfl⟩)
      | refine WpOps.nil ?_
      | refine WpA.ret ?_
      | refine WpA.skip ?_
      | refine WpA.cond _ rfl (fun h => ?_) (fun h => ?_)
      | refine WpA.draw (by kernel_rfl) ?_
      | refine LexA.op _ rfl rfl rfl rfl rfl ?_
    · exact retK.sub (.inr rfl) rfl (TrOk.refl H) (L := _) rfl rfl (Sub.tup (vs := [.sl .no 1 [], .int .i64 (check m)]) ⟨Sub.empty, Sub.refl _, trivial⟩) (bd _ [] _) ⟨rfl, rfl⟩
    all_goals
      exfalso
      simp at h
      exact hc h
end Go.Gp.Tryd

/- The manifest: Decode, its closures. -/
namespace Go.Gp.Tryd
open Go.Proofs
set_option linter.unusedVariables false
set_option linter.unusedSimpArgs false
set_option maxHeartbeats 4000000
set_option maxRecDepth 100000

abbrev errB (e : Int) : AObj := .cells [.int .i64 e]

theorem fail_A (a b : Int) (m j : Nat) (H : List AObj) (hH : H[m + j]? = some (errB a)) :
    CallsA E 50 [.int .i64 b, .ptr m j 0] H (fun e H' => H' = H.set (m + j) (errB (orI a b)) ∧ e = .ret (.tup [])) := by
  refine .enter Tryd.func50 rfl rfl rfl 7 Tryd.ntmps50 (Nat.le_of_ble_eq_true rfl) ?_
  repeat' first
    | refine WpA.region ?_
    | refine WpOps.op _ rfl rfl rfl rfl rfl ?_
    | (refine WpOps.call rfl rfl rfl rfl rfl (by exact Or_A a b _) ?_; rintro _ _ ⟨rfl, rfl⟩)
    | (refine WpOps.loadOut _ rfl rfl rfl rfl rfl hH rfl rfl rfl ?_)
    | (refine WpOps.buildSlice _ rfl rfl rfl rfl rfl rfl rfl rfl rfl rfl rfl ?_)
    | (refine WpOps.storeOut rfl rfl rfl rfl hH rfl rfl rfl rfl rfl ?_)
    | refine WpOps.nil ?_
  exact retK.sub (.inl rfl) (by simp) (TrOk.set1 (obd_cells (by intro x hx; have := List.mem_singleton.1 hx; subst this; exact .int))) rfl rfl (r := .tup []) (Sub.refl _) (.tup (by simp)) ⟨rfl, rfl⟩

theorem numC_A (os : List Oct) (i : Nat) (hi : i < os.length) (most : Nat) (hm : i < 255) (a : Int) (m p q r : Nat) (H : List AObj) (hp : H[m + p]? = some (.cells [.sl .no 3 (Oct.cellsL os)])) (hq : H[m + q]? = some (.cells [.func 50 [.ptr m r 0]])) (hr : H[m + r]? = some (errB a)) :
    CallsA E 53 [.int .i64 (i : Nat), .int .u64 (most : Nat), .ptr m p 0, .ptr m q 0] H
      (fun e H' => H' = H.set (m + r) (errB (orI a ((readNum os[i] (UInt8.ofNat (i + 1)) most).2 : Nat))) ∧ e = .ret (.int .u64 ((readNum os[i] (UInt8.ofNat (i + 1)) most).1 : Nat))) := by
  have hrl := get_lt hr
  have hc : (Oct.cellsL os)[((i : Nat) : Int).toNat]? = some (os[i]).cells := by rw [Int.toNat_natCast]; exact cellsL_get hi
  have hw : IntKind.u8.wrap (IntKind.i64.wrap ((i : Int) + 1)) = ((UInt8.ofNat (i + 1)).toNat : Int) := by
    rw [wrap64 (by omega) (by omega)]
    rw [UInt8.toNat_ofNat', Nat.mod_eq_of_lt (by omega)]
    show ((i : Int) + 1) % 256 = _
    omega
  have hN : ∀ H, CallsA E 54 [.agg os[i].cells, .int .u8 (IntKind.u8.wrap (IntKind.i64.wrap ((i : Int) + 1))), .int .u64 (most : Nat)] H _ := fun H => by rw [hw]; exact ReadNum_A os[i] (UInt8.ofNat (i + 1)) most H
  have hF : ∀ b, CallsA E 50 [.int .i64 b, .ptr m r 0] (H ++ []) (fun e H' => H' = H.set (m + r) (errB (orI a b)) ++ [] ∧ e = .ret (.tup [])) := fun b => by
    have := fail_A a b m r (H ++ []) (by simpa using hr)
    rw [List.set_append_left _ _ hrl] at this
    exact this
  refine .enter Tryd.func53 rfl rfl rfl 25 Tryd.ntmps53 (Nat.le_of_ble_eq_true rfl) ?_
  repeat' first
    | refine WpA.seq ?_
    | refine WpA.region ?_
    | refine WpOps.op _ rfl rfl rfl rfl rfl ?_
    | (refine WpOps.call rfl rfl rfl rfl rfl (by exact hN _) ?_; rintro _ _ ⟨rfl, rfl⟩)
    | (refine WpOps.loadOut _ rfl rfl rfl rfl rfl hp rfl rfl rfl ?_)
    | (refine WpOps.loadOut _ rfl rfl rfl rfl rfl hq rfl rfl rfl ?_)
    | (refine WpOps.elem (os[i]).cells rfl rfl rfl rfl rfl rfl rfl rfl rfl (Int.natCast_nonneg i) hc ?_)
    | (refine WpOps.call rfl rfl rfl rfl rfl (by exact hF _) ?_; rintro _ _ ⟨rfl, rfl⟩)
    | refine WpOps.nil ?_
    | refine WpA.ret ?_
  exact retK.sub (.inr rfl) (by simp) (TrOk.set1 (obd_cells (by intro x hx; have := List.mem_singleton.1 hx; subst this; exact .int))) rfl rfl (Sub.refl _) .int ⟨rfl, rfl⟩
end Go.Gp.Tryd
