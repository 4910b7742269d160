/- The manifest's checks: the search. -/
import Derived.Test.YtmacdhglhafldaaW7
namespace Go.Gp.Try
open Go.Proofs
set_option linter.unusedVariables false
set_option linter.unusedSimpArgs false
set_option maxHeartbeats 4000000

theorem lt_irrefl (x : List UInt8) : lt x x = false := by
  rw [lt_not x x]; simp

theorem lt_trans : ∀ {x y z : List UInt8}, lt x y = true → lt y z = true → lt x z = true
  | [], [], _, h, _ => by cases h
  | [], _ :: _, [], _, h => by cases h
  | [], _ :: _, _ :: _, _, _ => rfl
  | _ :: _, [], _, h, _ => by cases h
  | _ :: _, _ :: _, [], _, h => by cases h
  | a :: x, b :: y, c :: z, h1, h2 => by
    have h1' : (decide (a < b) || (a == b && lt x y)) = true := h1
    have h2' : (decide (b < c) || (b == c && lt y z)) = true := h2
    show (decide (a < c) || (a == c && lt x z)) = true
    simp only [Bool.or_eq_true, decide_eq_true_eq, Bool.and_eq_true, beq_iff_eq, UInt8.lt_iff_toNat_lt] at *
    rcases h1' with h1' | ⟨rfl, h1'⟩
    · rcases h2' with h2' | ⟨rfl, h2'⟩
      · exact .inl (by omega)
      · exact .inl h1'
    · rcases h2' with h2' | ⟨rfl, h2'⟩
      · exact .inl h2'
      · exact .inr ⟨rfl, lt_trans h1' h2'⟩

theorem cmp_neg : ∀ (x y : List UInt8), decide (cmpB x y < 0) = lt x y
  | [], [] => rfl
  | [], _ :: _ => rfl
  | _ :: _, [] => rfl
  | a :: x, b :: y => by
    have ih := cmp_neg x y
    show decide ((if a < b then (-1 : Int) else if b < a then 1 else cmpB x y) < 0) = (decide (a < b) || (a == b && lt x y))
    by_cases h1 : a < b
    · simp [h1]
    · by_cases h2 : b < a
      · have h3 : ¬ a = b := fun e => by subst e; exact h1 h2
        simp [h1, h2, h3]
      · have h3 : a = b := by
          apply UInt8.toNat_inj.1
          rw [UInt8.lt_iff_toNat_lt] at h1 h2
          omega
        subst h3
        simp [h1, ← ih]

theorem cmp_zero : ∀ (x y : List UInt8), (cmpB x y == 0) = (x == y)
  | [], [] => rfl
  | [], _ :: _ => rfl
  | _ :: _, [] => rfl
  | a :: x, b :: y => by
    have ih := cmp_zero x y
    show ((if a < b then (-1 : Int) else if b < a then 1 else cmpB x y) == 0) = (a == b && x == y)
    by_cases h1 : a < b
    · have h3 : ¬ a = b := fun e => by subst e; rw [UInt8.lt_iff_toNat_lt] at h1; omega
      simp [h1, h3]
    · by_cases h2 : b < a
      · have h3 : ¬ a = b := fun e => by subst e; exact h1 h2
        simp [h1, h2, h3]
      · have h3 : a = b := by
          apply UInt8.toNat_inj.1
          rw [UInt8.lt_iff_toNat_lt] at h1 h2
          omega
        subst h3
        simp only [if_neg h1, ih, BEq.rfl, Bool.true_and]

def nm (fs : List File) (k : Nat) : List UInt8 := ((fs[k]?).map File.name).getD []
theorem nm_eq {fs : List File} {k : Nat} (h : k < fs.length) : nm fs k = (fs[k]).name := by
  rw [nm, List.getElem?_eq_getElem h]; rfl

def Sorted (fs : List File) : Prop := ∀ a b, a < b → b < fs.length → lt (nm fs a) (nm fs b) = true

theorem sorted_of {fs : List File} (h : okUpTo fs fs.length = true) : Sorted fs := by
  intro a b hab hb
  have step : ∀ k, k + 1 < fs.length → lt (nm fs k) (nm fs (k + 1)) = true := fun k hk => by
    unfold okUpTo at h
    rw [List.all_eq_true] at h
    have := h (k + 1) (by simpa using hk)
    unfold okAt at this
    rw [List.getElem?_eq_getElem hk] at this
    simp only [List.getElem?_eq_getElem (show k < fs.length by omega), Bool.and_eq_true] at this
    rw [nm_eq hk, nm_eq (by omega)]
    exact this.2
  induction b with
  | zero => omega
  | succ b ih =>
    rcases Nat.lt_or_ge a b with h1 | h1
    · exact lt_trans (ih h1 (by omega)) (step b hb)
    · have : a = b := by omega
      subst this
      exact step a hb

theorem bd2 (n : Nat) (k : IntKind) (a : Int) (b : Bool) : Bd n (.tup [.int k a, .bool b]) := .tup fun e he => by
  simp at he
  rcases he with rfl | rfl
  · exact .int
  · exact .bool

/-- What the search answers. -/
def Found (fs : List File) (y : List UInt8) (p : Int) (b : Bool) : Prop :=
  (b = true → ∃ k : Nat, p = (k : Int) ∧ k < fs.length ∧ nm fs k = y) ∧ (b = false → ∀ k, k < fs.length → nm fs k ≠ y)

theorem mid_eq {i j : Nat} (h : i + j < 4000000000000000000) : IntKind.i64.wrap ((IntKind.u64.wrap (IntKind.i64.wrap ((i : Int) + (j : Int)))).fdiv (2 ^ min 1 64)) = (((i + j) / 2 : Nat) : Int) := by
  rw [wrap64 (x := (i : Int) + j) (by omega) (by omega), wrapu64 (by omega) (by omega)]
  have : ((i : Int) + j).fdiv (2 ^ min 1 64) = ((i + j) / 2 : Nat) := by
    show ((i : Int) + j).fdiv 2 = _
    rw [Int.fdiv_eq_ediv_of_nonneg _ (by omega)]
    omega
  rw [this]
  exact wrap64 (by omega) (by omega)

theorem Search_A (fs : List File) (y : List UInt8) (H : List AObj) (hb : fs.length ≤ 1000000000000000) (hs : Sorted fs) :
    CallsA E 18 [.sl .no 33 (rows fs), .str y, .func 19 []] H (fun x H' => H' = H ∧ ∃ p b, x = .ret (.tup [.int .i64 p, .bool b]) ∧ Found fs y p b) := by
  refine .enter Try.func18 rfl rfl rfl 49 Try.ntmps18 (Nat.le_of_ble_eq_true rfl) ?_
  repeat' first
    | refine WpA.seq ?_
    | refine WpA.region ?_
    | refine WpOps.op _ rfl rfl rfl rfl rfl ?_
    | refine WpOps.box _ rfl rfl rfl rfl rfl ?_
    | refine WpOps.alloc _ rfl rfl rfl rfl rfl rfl ?_
    | refine WpOps.store rfl rfl rfl rfl rfl rfl rfl rfl rfl rfl ?_
    | refine WpOps.skip rfl rfl rfl ?_
    | refine WpOps.build _ rfl rfl rfl rfl rfl ?_
    | refine WpOps.sh _ rfl rfl rfl rfl rfl ?_
    | refine WpOps.gsplit _ rfl rfl rfl (fun h => ?_) (fun h => ?_)
    | refine WpA.block ?_
    | refine WpA.exit ?_
    | refine WpOps.nil ?_
    | refine WpA.ret ?_
    | refine WpA.skip ?_
    | refine WpA.condT rfl ?_
    | refine WpA.condF rfl ?_
    | refine WpA.cond _ rfl (fun h => ?_) (fun h => ?_)
    | refine WpA.draw (by kernel_rfl) ?_
    | refine LexA.op _ rfl rfl rfl rfl rfl ?_
    | refine LexA.skip rfl rfl rfl ?_
    | refine LexA.build _ rfl rfl rfl rfl rfl ?_
    | refine LexA.sh _ rfl rfl rfl rfl rfl ?_
    | refine LexA.gsplit _ rfl rfl rfl (fun h => ?_) (fun h => ?_)
    | refine LexA.nil ?_
  refine WpA.loopS (α := Nat × Nat) (fun p => [(0, .sl .no 33 (rows fs)), (1, .str y), (2, .func 19 []), (8, .int .i64 (rows fs).length), (9, .int .i64 p.1), (10, .int .i64 p.2)]) (fun _ => H ++ [])
    (fun p => p.1 ≤ p.2 ∧ p.2 ≤ fs.length ∧ (∀ k, k < p.1 → lt (nm fs k) y = true) ∧ (∀ k, p.2 ≤ k → k < fs.length → lt (nm fs k) y = false)) (fun p => p.2 - p.1) (0, (rows fs).length)
    ⟨Nat.zero_le _, by rw [rows_length]; exact Nat.le_refl _, fun k h => by omega, fun k h1 h2 => by rw [rows_length] at h1; omega⟩ ⟨rfl, rfl, rfl, rfl, rfl, rfl, trivial⟩ rfl ?_
  rintro ⟨i, j⟩ ⟨h1, h2, h3, h4⟩
  simp only at h1 h2 h3 h4
  dsimp only
  repeat' first
    | refine WpA.seq ?_
    | refine WpA.region ?_
    | refine WpOps.op _ rfl rfl rfl rfl rfl ?_
    | refine WpOps.box _ rfl rfl rfl rfl rfl ?_
    | refine WpOps.alloc _ rfl rfl rfl rfl rfl rfl ?_
    | refine WpOps.store rfl rfl rfl rfl rfl rfl rfl rfl rfl rfl ?_
    | refine WpOps.skip rfl rfl rfl ?_
    | refine WpOps.build _ rfl rfl rfl rfl rfl ?_
    | refine WpOps.sh _ rfl rfl rfl rfl rfl ?_
    | refine WpOps.gsplit _ rfl rfl rfl (fun h => ?_) (fun h => ?_)
    | refine WpA.block ?_
    | refine WpA.exit ?_
    | refine WpOps.nil ?_
    | refine WpA.ret ?_
    | refine WpA.skip ?_
    | refine WpA.condT rfl ?_
    | refine WpA.condF rfl ?_
    | refine WpA.cond _ rfl (fun h => ?_) (fun h => ?_)
    | refine WpA.draw (by kernel_rfl) ?_
    | refine LexA.op _ rfl rfl rfl rfl rfl ?_
    | refine LexA.skip rfl rfl rfl ?_
    | refine LexA.build _ rfl rfl rfl rfl rfl ?_
    | refine LexA.sh _ rfl rfl rfl rfl rfl ?_
    | refine LexA.gsplit _ rfl rfl rfl (fun h => ?_) (fun h => ?_)
    | refine LexA.nil ?_
  · simp at h
    have hm1 : (i + j) / 2 < fs.length := by omega
    have hmid := mid_eq (i := i) (j := j) (by omega)
    have hz : 0 ≤ IntKind.i64.wrap ((IntKind.u64.wrap (IntKind.i64.wrap ((i : Int) + (j : Int)))).fdiv (2 ^ min 1 64)) := by rw [hmid]; omega
    have hl : (rows fs)[(IntKind.i64.wrap ((IntKind.u64.wrap (IntKind.i64.wrap ((i : Int) + (j : Int)))).fdiv (2 ^ min 1 64))).toNat]? = some (fs[(i + j) / 2]).row := by rw [hmid]; exact rows_get hm1
    have hw1 : IntKind.i64.wrap (IntKind.i64.wrap ((IntKind.u64.wrap (IntKind.i64.wrap ((i : Int) + (j : Int)))).fdiv (2 ^ min 1 64)) + 1) = (((i + j) / 2 + 1 : Nat) : Int) := by
      rw [hmid, wrap64 (by omega) (by omega)]; rfl
    refine WpOps.elem (fs[(i + j) / 2]).row rfl rfl rfl rfl rfl rfl rfl rfl rfl (by exact hz) (by exact hl) ?_
    repeat' first
      | refine WpA.seq ?_
      | refine WpA.region ?_
      | refine WpOps.op _ rfl rfl rfl rfl rfl ?_
      | refine WpOps.box _ rfl rfl rfl rfl rfl ?_
      | refine WpOps.alloc _ rfl rfl rfl rfl rfl rfl ?_
      | refine WpOps.store rfl rfl rfl rfl rfl rfl rfl rfl rfl rfl ?_
      | refine WpOps.skip rfl rfl rfl ?_
      | refine WpOps.build _ rfl rfl rfl rfl rfl ?_
      | refine WpOps.sh _ rfl rfl rfl rfl rfl ?_
      | (refine WpOps.call rfl rfl rfl rfl rfl (by exact FindCmp_A _ _ _) ?_; rintro _ _ ⟨rfl, rfl⟩)
      | refine WpOps.gsplit _ rfl rfl rfl (fun h => ?_) (fun h => ?_)
      | refine WpA.block ?_
      | refine WpA.exit ?_
      | refine WpOps.nil ?_
      | refine WpA.ret ?_
      | refine WpA.skip ?_
      | refine WpA.condT rfl ?_
      | refine WpA.condF rfl ?_
      | refine WpA.cond _ rfl (fun h => ?_) (fun h => ?_)
      | refine WpA.draw (by kernel_rfl) ?_
      | refine LexA.op _ rfl rfl rfl rfl rfl ?_
      | refine LexA.skip rfl rfl rfl ?_
      | refine LexA.build _ rfl rfl rfl rfl rfl ?_
      | refine LexA.sh _ rfl rfl rfl rfl rfl ?_
      | refine LexA.call rfl rfl rfl rfl rfl (by exact FindCmp_A _ _ _) ?_
      | refine LexA.gsplit _ rfl rfl rfl (fun h => ?_) (fun h => ?_)
      | refine LexA.nil ?_
    · refine ⟨((i + j) / 2 + 1, j), ⟨by simp only; omega, h2, fun k hk => ?_, h4⟩, by simp only; omega, ⟨rfl, rfl, rfl, rfl, congrArg (AV.int .i64) hw1, rfl, trivial⟩, rfl⟩
      rw [cmp_neg, ← nm_eq hm1] at h
      rcases Nat.lt_or_ge k ((i + j) / 2) with hk1 | hk1
      · exact lt_trans (hs _ _ hk1 hm1) h
      · have : k = (i + j) / 2 := by simp only at hk; omega
        rw [this]; exact h
    · refine ⟨(i, (i + j) / 2), ⟨by simp only; omega, by simp only; omega, h3, fun k hk1 hk2 => ?_⟩, by simp only; omega, ⟨rfl, rfl, rfl, rfl, rfl, congrArg (AV.int .i64) hmid, trivial⟩, rfl⟩
      rw [cmp_neg, ← nm_eq hm1] at h
      simp only at hk1
      rcases Nat.lt_or_ge ((i + j) / 2) k with hk3 | hk3
      · cases hq : lt (nm fs k) y with
        | false => rfl
        | true => rw [lt_trans (hs _ _ hk3 hk2) hq] at h; cases h
      · have : k = (i + j) / 2 := by omega
        rw [this]; exact h
  all_goals (try (cases h; done))
  · rename_i q0 q1 
    simp at q0
    have hij : i = j := by omega
    subst hij
    simp [rows_length] at q1
    refine WpOps.elem (fs[i]).row rfl rfl rfl rfl rfl rfl rfl rfl rfl (Int.natCast_nonneg _) (rows_get q1) ?_
    clear h
    repeat' first
      | refine WpA.seq ?_
      | refine WpA.region ?_
      | refine WpOps.op _ rfl rfl rfl rfl rfl ?_
      | refine WpOps.box _ rfl rfl rfl rfl rfl ?_
      | refine WpOps.alloc _ rfl rfl rfl rfl rfl rfl ?_
      | refine WpOps.store rfl rfl rfl rfl rfl rfl rfl rfl rfl rfl ?_
      | refine WpOps.skip rfl rfl rfl ?_
      | refine WpOps.build _ rfl rfl rfl rfl rfl ?_
      | refine WpOps.sh _ rfl rfl rfl rfl rfl ?_
      | (refine WpOps.call rfl rfl rfl rfl rfl (by exact FindCmp_A _ _ _) ?_; rintro _ _ ⟨rfl, rfl⟩)
      | refine WpOps.gsplit _ rfl rfl rfl (fun h => ?_) (fun h => ?_)
      | refine WpA.block ?_
      | refine WpA.exit ?_
      | refine WpOps.nil ?_
      | refine WpA.ret ?_
      | refine WpA.skip ?_
      | refine WpA.condT rfl ?_
      | refine WpA.condF rfl ?_
      | refine WpA.cond _ rfl (fun h => ?_) (fun h => ?_)
      | refine WpA.draw (by kernel_rfl) ?_
      | refine LexA.op _ rfl rfl rfl rfl rfl ?_
      | refine LexA.skip rfl rfl rfl ?_
      | refine LexA.build _ rfl rfl rfl rfl rfl ?_
      | refine LexA.sh _ rfl rfl rfl rfl rfl ?_
      | refine LexA.call rfl rfl rfl rfl rfl (by exact FindCmp_A _ _ _) ?_
      | refine LexA.gsplit _ rfl rfl rfl (fun h => ?_) (fun h => ?_)
      | refine LexA.nil ?_
    refine retK.ok' (.inr rfl) rfl rfl (by exact bd2 _ _ _ _) ⟨rfl, _, _, rfl, ?_, ?_⟩
    · intro hq
      have hq' : (cmpB (fs[i]).name y == 0) = true := hq
      rw [cmp_zero, ← nm_eq q1, beq_iff_eq] at hq'
      exact ⟨i, rfl, q1, hq'⟩
    · intro hq k hk
      have hq' : (cmpB (fs[i]).name y == 0) = false := hq
      rw [cmp_zero, ← nm_eq q1] at hq'
      rcases Nat.lt_trichotomy k i with h5 | h5 | h5
      · intro e
        have := h3 k h5
        rw [e, lt_irrefl] at this
        cases this
      · rw [h5]; simpa using hq'
      · intro e
        have h6 := hs i k h5 hk
        rw [e] at h6
        rw [h4 i (Nat.le_refl _) q1] at h6
        cases h6
  · rename_i q0
    simp at q0
    have hij : i = j := by omega
    subst hij
    simp [rows_length] at h
    refine retK.ok' (.inr rfl) rfl rfl (by exact bd2 _ _ _ _) ⟨rfl, _, _, rfl, ?_, ?_⟩
    · intro hq; cases hq
    · intro _ k hk e
      have := h3 k (by omega)
      rw [e, lt_irrefl] at this
      cases this
end Go.Gp.Try
